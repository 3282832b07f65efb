/-
  Disks of chains: entries of the directory: which are valid.
  Disks of chains: the bytes of an entry.
-/
import Derived.Test.YtapkckpjeoedaaaGreatDoorName
import Derived.Test.YtapkckpjeoedaaaGreatDoorChainTop
namespace Go.Proofs.YtapkckpjeoedaaaGreatDoor
open Go Go.ChangeShapes Go.WideShapes Go.ChangeAt Go.RowKit lib
set_option linter.unusedVariables false
set_option maxRecDepth 100000
/-- an entry -/
def entV (nm : ByteArray) (f l : Int) (us de : Bool) : Value := .agg #[.string nm, .int .i64 f, .int .i64 l, .bool us, .bool de]
def zeroE (nm : ByteArray) (f l : Int) (us de : Bool) : Prop := nm = ⟨#[]⟩ ∧ f = 0 ∧ l = 0 ∧ us = false ∧ de = false
def entryEqB (nm : ByteArray) (f l : Int) (us de : Bool) : Bool := decide (nm = ⟨#[]⟩ ∧ f = 0 ∧ l = 0 ∧ us = false ∧ de = false)
/-- a valid entry -/
def validE (nm : ByteArray) (f l : Int) (us de : Bool) : Prop := zeroE nm f l us de ∨ (us ≠ de ∧ NameS nm ∧ (0 ≤ f ∧ f ≤ 255) ∧ (0 ≤ l ∧ l ≤ 512))
@[go_sem] theorem eqGuardEnt : Tryz.prog.eqGuardType Tryz.prog.depth 82 = false := by kernel_rfl
@[go_sem high] theorem eqEntT (nm : ByteArray) (f l : Int) (us de : Bool) (w : World) : (Op.equalIn 10000 82 (.agg #[.string nm, .int .i64 f, .int .i64 l, .bool us, .bool de]) (.agg #[.string ⟨#[]⟩, .int .i64 0, .int .i64 0, .bool false, .bool false])).run Tryz.prog w = .ok (entryEqB nm f l us de) w := by
  have u3 := Tryz.underlying9
  have a3 := Tryz.isAgg9
  have z3 := Tryz.sizeOf9
  have u4 := Tryz.underlying2
  have a4 := Tryz.isAgg2
  have z4 := Tryz.sizeOf2
  have u5 := Tryz.underlying4
  have a5 := Tryz.isAgg4
  have z5 := Tryz.sizeOf4
  have hS : Tryz.prog.underlying 82 = some (.struct (Tryz.prog.fieldsOf 82)) := by kernel_rfl
  have hp : Tryz.prog.stoodInHeld 82 = false := by kernel_rfl
  rw [show (10000 : Nat) = 9999 + 1 from rfl, run_equalIn_agg w 9999 82 _ _ hS hp]
  simp only [Program.fieldsOf, Tryz.underlying82]
  go_simp
  unfold entryEqB
  have ht : (nm.toList = []) = (nm = ⟨#[]⟩) := by
    rw [← toList_iff nm ⟨#[]⟩, show (⟨#[]⟩ : ByteArray).toList = [] by rw [ByteArray.toList_eq]]
  simp only [ht]
  by_cases h1 : nm = ⟨#[]⟩ <;> by_cases h2 : f = 0 <;> by_cases h3 : l = 0 <;> cases us <;> cases de <;> simp [h1, h2, h3]
set_option maxHeartbeats 1000000 in
theorem implValid_any (nm : ByteArray) (f l : Int) (us de : Bool) (hnm : nm.size ≤ 9223372036854775807) (b : Bool) (hb : b = true ↔ validE nm f l us de) (w : World) :
    Calls Tryz.prog 108 #[entV nm f l us de] w fun e w' => e = .returned (.bool b) ∧ Below w.heap.size w w' := by
  unfold entV
  have hbx := (Below.refl w.heap.size w).alloc (Nat.le_refl _) (.cells #[.string nm, .int .i64 f, .int .i64 l, .bool us, .bool de] 82)
  by_cases hz : zeroE nm f l us de
  · have hf : entryEqB nm f l us de = true := by unfold entryEqB; simpa [zeroE] using hz
    obtain rfl : b = true := hb.2 (.inl hz)
    clear hb hz
    go_enter Tryz.func108, Tryz.ntmps108
    go_wp2
    go_ret
    exact ⟨rfl, hbx⟩
  · have hf : entryEqB nm f l us de = false := by unfold entryEqB; simpa [zeroE] using hz
    have hb' : b = true ↔ (us ≠ de ∧ NameS nm ∧ (0 ≤ f ∧ f ≤ 255) ∧ (0 ≤ l ∧ l ≤ 512)) := by rw [hb]; unfold validE; simp [hz]
    clear hb hz
    have HN := Lib.hid (fun (b1 : Bool) (h1 : b1 = true ↔ NameS nm) (w : World) => implIsName_any nm hnm b1 h1 w)
    by_cases hud : us = de
    · obtain rfl : b = false := by
        cases hbb : b with
        | false => rfl
        | true => exact absurd hud (hb'.1 hbb).1
      subst hud
      clear hb'
      cases us
      all_goals
        go_enter Tryz.func108, Tryz.ntmps108
        go_wp2
        go_ret
        exact ⟨rfl, hbx⟩
    · have hud2 : (us != de) = true := by simpa using hud
      by_cases hN : NameS nm
      · have HN1 := Lib.hid (HN.out true (by simpa using hN))
        by_cases hF : 0 ≤ f ∧ f ≤ 255
        · have hF1 : (decide ((0 : Int) ≤ f) && decide (f ≤ 255)) = true := by simp; omega
          have hL1 : b = (decide ((0 : Int) ≤ l) && decide (l ≤ 512)) := by
            rw [Bool.eq_iff_iff, hb']
            simp [hud, hN, hF]
          subst hL1
          clear hb' hN hF
          go_enter Tryz.func108, Tryz.ntmps108
          go_wp2_with (first
            | (go_at_call 136; refine (HN1.out _).mono ?_; rintro e w' ⟨rfl, rfl⟩)
            | (go_at_call 137; refine (isByte_any _ _).mono ?_; rw [hF1]; rintro e w' ⟨rfl, rfl⟩)
            | (go_at_call 92; refine (within_any _ _ _ _).mono ?_; rintro e w' ⟨rfl, rfl⟩))
          go_ret
          exact ⟨congrArg (fun b => Ending.returned (Value.bool b)) (show ((!us == de) && (decide ((0 : Int) ≤ l) && decide (l ≤ 512))) = (decide ((0 : Int) ≤ l) && decide (l ≤ 512)) by simp [hud]), hbx⟩
        · have hF1 : (decide ((0 : Int) ≤ f) && decide (f ≤ 255)) = false := by
            rw [Bool.eq_false_iff]
            intro h
            simp at h
            omega
          obtain rfl : b = false := by
            cases hbb : b with
            | false => rfl
            | true => exact absurd (hb'.1 hbb).2.2.1 hF
          clear hb' hN hF
          go_enter Tryz.func108, Tryz.ntmps108
          go_wp2_with (first
            | (go_at_call 136; refine (HN1.out _).mono ?_; rintro e w' ⟨rfl, rfl⟩)
            | (go_at_call 137; refine (isByte_any _ _).mono ?_; rw [hF1]; rintro e w' ⟨rfl, rfl⟩))
          go_ret
          exact ⟨rfl, hbx⟩
      · have HN1 := Lib.hid (HN.out false (by simpa using hN))
        obtain rfl : b = false := by
          cases hbb : b with
          | false => rfl
          | true => exact absurd (hb'.1 hbb).2.1 hN
        clear hb' hN
        go_enter Tryz.func108, Tryz.ntmps108
        go_wp2_with (go_at_call 136; refine (HN1.out _).mono ?_; rintro e w' ⟨rfl, rfl⟩)
        go_ret
        exact ⟨rfl, hbx⟩
theorem specValid_none (q : Nat) (nm : ByteArray) (f l : Int) (w : World) (hr : Rw w q 82 #[.string nm, .int .i64 f, .int .i64 l, .bool false, .bool false]) :
    Calls Tryz.prog 103 #[.pointer (some ⟨q, 0, none⟩)] w fun e w' => e = .returned (.bool (entryEqB nm f l false false)) ∧ w = w' := by
  have c0 := hr.cell 0
  have c1 := hr.cell 1
  have c2 := hr.cell 2
  have c3 := hr.cell 3
  have c4 := hr.cell 4
  go_enter Tryz.func103, Tryz.ntmps103
  go_wp2
  go_ret
  exact ⟨rfl, rfl⟩
theorem specValid_both (q : Nat) (nm : ByteArray) (f l : Int) (w : World) (hr : Rw w q 82 #[.string nm, .int .i64 f, .int .i64 l, .bool true, .bool true]) :
    Calls Tryz.prog 103 #[.pointer (some ⟨q, 0, none⟩)] w fun e w' => e = .returned (.bool false) ∧ Below w.heap.size w w' := by
  have c0 := hr.cell 0
  have c1 := hr.cell 1
  have c2 := hr.cell 2
  have c3 := hr.cell 3
  have c4 := hr.cell 4
  go_enter Tryz.func103, Tryz.ntmps103
  go_wp2
  go_quiet (fail)
  go_wp2
  go_ret
  exact ⟨rfl, (Below.refl _ _).drewN _⟩
theorem l00In_sym (a b c : Int) (w : World) : Calls Tryz.prog 84 #[.int .i64 a, .int .i64 b, .int .i64 c] w fun e w' => e = .returned (.bool (decide (b ≤ a) && decide (a ≤ c))) ∧ w' = w :=
  (l00In_any a b c w).mono fun e w' h => ⟨h.1, h.2.symm⟩
theorem specIsName_sym (s : ByteArray) (hs : s.size ≤ 9223372036854775807) (b : Bool) (hb : b = true ↔ NameS s) (w : World) : Calls Tryz.prog 129 #[.string s] w fun e w' => e = .returned (.bool b) ∧ w' = w :=
  (specIsName_any s hs b hb w).mono fun e w' h => ⟨h.1, h.2.symm⟩
set_option maxHeartbeats 4000000 in
theorem specValid_one (q : Nat) (nm : ByteArray) (f l : Int) (us : Bool) (hnm : nm.size ≤ 9223372036854775807) (b1 b2 b3 : Bool) (h1 : b1 = true ↔ NameS nm) (h2 : (decide ((0 : Int) ≤ f) && decide (f ≤ 255)) = b2) (h3 : (decide ((0 : Int) ≤ l) && decide (l ≤ 512)) = b3) (w : World)
    (hr : Rw w q 82 #[.string nm, .int .i64 f, .int .i64 l, .bool us, .bool (!us)]) :
    Calls Tryz.prog 103 #[.pointer (some ⟨q, 0, none⟩)] w fun e w' => e = .returned (.bool (b1 && b2 && b3)) ∧ Below w.heap.size w w' := by
  have c0 := hr.cell 0
  have c1 := hr.cell 1
  have c2 := hr.cell 2
  have c3 := hr.cell 3
  have c4 := hr.cell 4
  have H1 := Lib.hid (fun w : World => specIsName_sym nm hnm b1 h1 w)
  clear h1 hr
  cases us <;> cases b1 <;> cases b2
  all_goals
    go_enter Tryz.func103, Tryz.ntmps103
    go_wp2
    go_quiet (first
      | (go_at_call 129; refine Calls.quiet_of_same (H1.out _))
      | (go_at_call 84; refine Calls.quiet_of_same (l00In_sym _ _ _ _)))
    go_wp2
    go_ret
    first
    | exact ⟨rfl, (Below.refl _ _).drewN _⟩
    | exact ⟨congrArg (fun b => Ending.returned (Value.bool b)) h3, (Below.refl _ _).drewN _⟩
theorem specValid_any (q : Nat) (nm : ByteArray) (f l : Int) (us de : Bool) (hnm : nm.size ≤ 9223372036854775807) (b : Bool) (hb : b = true ↔ validE nm f l us de) (w : World)
    (hr : Rw w q 82 #[.string nm, .int .i64 f, .int .i64 l, .bool us, .bool de]) :
    Calls Tryz.prog 103 #[.pointer (some ⟨q, 0, none⟩)] w fun e w' => e = .returned (.bool b) ∧ Below w.heap.size w w' := by
  open Classical in
  by_cases hud : us = de
  · subst hud
    cases us with
    | false =>
      have : b = entryEqB nm f l false false := by
        rw [Bool.eq_iff_iff, hb]
        unfold validE zeroE entryEqB
        simp
      rw [this]
      exact (specValid_none q nm f l w hr).mono fun e w' ⟨h1, h2⟩ => ⟨h1, h2 ▸ Below.refl _ _⟩
    | true =>
      have : b = false := by
        cases hbb : b with
        | false => rfl
        | true => exact absurd (hb.1 hbb) (by unfold validE zeroE; simp)
      rw [this]
      exact specValid_both q nm f l w hr
  · obtain rfl : de = !us := by cases us <;> cases de <;> simp_all
    have : b = (decide (NameS nm) && (decide ((0 : Int) ≤ f) && decide (f ≤ 255)) && (decide ((0 : Int) ≤ l) && decide (l ≤ 512))) := by
      rw [Bool.eq_iff_iff, hb]
      unfold validE zeroE
      cases us <;> simp [and_assoc]
    rw [this]
    exact specValid_one q nm f l us hnm _ _ _ (by simp) rfl rfl w hr
end Go.Proofs.YtapkckpjeoedaaaGreatDoor
namespace Go.Proofs.YtapkckpjeoedaaaGreatDoor
open Go Go.ChangeShapes Go.WideShapes Go.ChangeAt Go.RowKit lib
set_option linter.unusedVariables false
set_option maxRecDepth 100000
/-- 'copy(dst, s)', s a string: the walk's step in a plain region -/
theorem wpList_copy_str {P : Program} {ops : Array Oper} {rest : List Oper} {o : Oper} {a : Act} {w : World} {Q : Exit → Act → World → Prop} (hgd : o.guard = none) (d x : Operand) (dT sT : TypeId)
    (hop : o.op = Op.call { callee := Callee.builtin Builtin.copy, args := #[d, x], argTypes := #[dT, sT] }) (elem : TypeId) (hu : P.underlying dT = some (.slice elem)) (hz : ∀ w, (Go.sizeOf elem).run P w = .ok 1 w)
    (b off dLen dCap : Nat) (hd : a.eval d = .slice (some ⟨b, off, none⟩) dLen dCap) (t : ByteArray) (hx : a.eval x = .string t) (hle : t.size ≤ dLen)
    (hc : ∀ j, j < t.size → (w.cell? ⟨b, off + j, none⟩).isSome = true) (hf : ∀ j, j < t.size → w.frozen? ⟨b, off + j, none⟩ = false)
    (hK : wpList P ops Q rest (a.put o.dst (goInt t.size)) (w.setCells b off (t.data.toList.map fun x => Value.int .u8 (x.toNat : Int)))) : wpList P ops Q (o :: rest) a w := by
  refine wpList_plain hgd fun K hK' => ?_
  have hrun := run_copy_string (P := P) w dT sT o.type elem b off dLen dCap t hu hz hle hc hf
  unfold Oper.wp
  simp [execOp, hop, resolve, invoke, builtin, hd, hx, hrun, Result.andThen]
  exact hK' _ _ hK
/-- the bytes of a valid entry but the last -/
def entB0 (nm : ByteArray) (f l : Nat) : Nat → UInt8 := upd (upd (upd (putU (fun _ => 0) 0 nm.data.toList) 8 (UInt8.ofNat f)) 9 (UInt8.ofNat (l / 256))) 10 (UInt8.ofNat (l % 256))
/-- the bytes of a valid entry -/
def entB (nm : ByteArray) (f l : Nat) (us de : Bool) : Nat → UInt8 := if us then upd (entB0 nm f l) 11 1 else if de then upd (entB0 nm f l) 11 2 else entB0 nm f l
theorem entB_ff (nm : ByteArray) (f l : Nat) : entB nm f l false false = entB0 nm f l := rfl
theorem entB_ft (nm : ByteArray) (f l : Nat) : entB nm f l false true = upd (entB0 nm f l) 11 2 := rfl
theorem entB_t (nm : ByteArray) (f l : Nat) (de : Bool) : entB nm f l true de = upd (entB0 nm f l) 11 1 := rfl
theorem u8_ofNat' {x : Nat} (h : x < 256) : ((UInt8.ofNat x).toNat : Int) = (x : Int) := by
  rw [UInt8.toNat_ofNat']
  omega
set_option maxHeartbeats 2000000 in
theorem implPut_any (nm : ByteArray) (f l : Nat) (us de : Bool) (hnm : nm.size ≤ 8) (hf : f ≤ 255) (hl : l ≤ 512) (w : World) :
    Calls Tryz.prog 64 #[entV nm f l us de] w fun e w' => ∃ g, e = .returned (.slice (some ⟨g, 0, none⟩) 12 12) ∧ BRow w' 5 g 12 (entB nm f l us de) ∧ w.heap.size ≤ g ∧ Below w.heap.size w w' := by
  unfold entV
  have mk : ∀ W : World, (Instr.makeSlice 63 (.int .i64 12) (.int .i64 12)).run Tryz.prog W = .ok (.slice (some ⟨W.heap.size, 0, none⟩) 12 12) (W.alloc (.cells (madeCells #[.int .u8 0] 12) 5)) := fun W => run_mk (P := Tryz.prog) 63 5 (.int .u8 0) 1 1 Tryz.underlying63 (by kernel_rfl) (by omega) 12 (by omega) W
  have rb := ((Rw.new w 82 #[.string nm, .int .i64 f, .int .i64 l, .bool us, .bool de]).alloc (.cells (madeCells #[.int .u8 0] 12) 5)).below (B := w.heap.size + 1) (w' := ((w.alloc (.cells #[.string nm, .int .i64 f, .int .i64 l, .bool us, .bool de] 82)).alloc (.cells (madeCells #[.int .u8 0] 12) 5)).setCells (w.heap.size + 1) 0 (nm.data.toList.map fun x => Value.int .u8 (x.toNat : Int)))
    (below_setCells (Nat.le_refl _) _ _ _ (Below.refl _ _)) (by omega)
  have br0 := BRow.made (w.alloc (.cells #[.string nm, .int .i64 f, .int .i64 l, .bool us, .bool de] 82)) 5 12
  rw [World.size_alloc] at br0
  have br := BRow.setCells nm.data.toList 0 _ _ br0
  have hB : Below w.heap.size w (((w.alloc (.cells #[.string nm, .int .i64 f, .int .i64 l, .bool us, .bool de] 82)).alloc (.cells (madeCells #[.int .u8 0] 12) 5)).setCells (w.heap.size + 1) 0 (nm.data.toList.map fun x => Value.int .u8 (x.toNat : Int))) :=
    below_setCells (by omega) _ _ _ (((Below.refl _ _).alloc (Nat.le_refl _) _).alloc (by simp) _)
  have c1 := rb.cell 1
  have c2 := rb.cell 2
  have c3 := rb.cell 3
  have c4 := rb.cell 4
  have r8 := br.cell (i := 8) (by omega)
  have r9 := br.cell (i := 9) (by omega)
  have r10 := br.cell (i := 10) (by omega)
  have r11 := br.cell (i := 11) (by omega)
  have f8 := br.frozen (i := 8) (by omega)
  have f9 := br.frozen (i := 9) (by omega)
  have f10 := br.frozen (i := 10) (by omega)
  have f11 := br.frozen (i := 11) (by omega)
  have hcp := run_copy_string (P := Tryz.prog) ((w.alloc (.cells #[.string nm, .int .i64 f, .int .i64 l, .bool us, .bool de] 82)).alloc (.cells (madeCells #[.int .u8 0] 12) 5)) 63 9 3 5 (w.heap.size + 1) 0 12 12 nm Tryz.underlying63 sizeOf8 (by omega)
    (fun j hj => by rw [Nat.zero_add, br0.cell (by omega)]; rfl) (fun j hj => by rw [Nat.zero_add]; exact br0.frozen (by omega))
  have BR := Lib.hid br
  have HB := Lib.hid hB
  clear br0 br hB rb
  have d8 : (wrap64 ((l : Int) / 256)) = ((l / 256 : Nat) : Int) := by unfold wrap64; omega
  cases us <;> cases de
  all_goals
    go_enter Tryz.func64, Tryz.ntmps64
    go_wp2_with fail
    go_region
    go_wp2_with fail
    go_ret
    have hb3 := (((HB.out.setCell (p := ⟨w.heap.size + 1, 8, none⟩) (by show w.heap.size ≤ w.heap.size + 1; omega) (.int .u8 (f : Int))).setCell (p := ⟨w.heap.size + 1, 9, none⟩) (by show w.heap.size ≤ w.heap.size + 1; omega) (.int .u8 ((l : Int) / 256))).setCell (p := ⟨w.heap.size + 1, 10, none⟩) (by show w.heap.size ≤ w.heap.size + 1; omega) (.int .u8 ((l : Int) % 256)))
    have br3 := (((BR.out.set (i := 8) (UInt8.ofNat f) (u8_ofNat' (x := f) (by omega)).symm).set (i := 9) (UInt8.ofNat (l / 256)) (y := (l : Int) / 256) (by rw [u8_ofNat' (by omega)]; omega)).set (i := 10) (UInt8.ofNat (l % 256)) (y := (l : Int) % 256) (by rw [u8_ofNat' (by omega)]; omega))
    change BRow _ _ _ _ (entB0 nm f l) at br3
    refine ⟨_, rfl, ?_⟩
  · rw [entB_ff]
    exact ⟨br3.drew, by omega, hb3.drew⟩
  · rw [entB_ft]
    exact ⟨(br3.set (i := 11) 2 rfl).drew, by omega, (hb3.setCell (p := ⟨w.heap.size + 1, 11, none⟩) (by show w.heap.size ≤ w.heap.size + 1; omega) _).drew⟩
  · rw [entB_t]
    exact ⟨(br3.set (i := 11) 1 rfl).drew, by omega, (hb3.setCell (p := ⟨w.heap.size + 1, 11, none⟩) (by show w.heap.size ≤ w.heap.size + 1; omega) _).drew⟩
  · rw [entB_t]
    exact ⟨(br3.set (i := 11) 1 rfl).drew, by omega, (hb3.setCell (p := ⟨w.heap.size + 1, 11, none⟩) (by show w.heap.size ≤ w.heap.size + 1; omega) _).drew⟩
set_option maxHeartbeats 2000000 in
theorem specPut_any (q : Nat) (nm : ByteArray) (f l : Nat) (us de : Bool) (hnm : nm.size ≤ 8) (hf : f ≤ 255) (hl : l ≤ 512) (w : World) (hr : Rw w q 82 #[.string nm, .int .i64 f, .int .i64 l, .bool us, .bool de]) :
    Calls Tryz.prog 91 #[.pointer (some ⟨q, 0, none⟩)] w fun e w' => ∃ g, e = .returned (.slice (some ⟨g, 0, none⟩) 12 12) ∧ BRow w' 5 g 12 (entB nm f l us de) ∧ w.heap.size ≤ g ∧ Below w.heap.size w w' := by
  have mk : ∀ W : World, (Instr.makeSlice 63 (.int .i64 12) (.int .i64 12)).run Tryz.prog W = .ok (.slice (some ⟨W.heap.size, 0, none⟩) 12 12) (W.alloc (.cells (madeCells #[.int .u8 0] 12) 5)) := fun W => run_mk (P := Tryz.prog) 63 5 (.int .u8 0) 1 1 Tryz.underlying63 (by kernel_rfl) (by omega) 12 (by omega) W
  have hq := hr.lt
  have hqn : q ≠ w.heap.size := Nat.ne_of_lt hq
  have c0 := hr.cell 0
  have rb := (hr.alloc (.cells (madeCells #[.int .u8 0] 12) 5)).below (B := w.heap.size) (w' := (w.alloc (.cells (madeCells #[.int .u8 0] 12) 5)).setCells w.heap.size 0 (nm.data.toList.map fun x => Value.int .u8 (x.toNat : Int)))
    (below_setCells (Nat.le_refl _) _ _ _ (Below.refl _ _)) hq
  have a0 := (hr.alloc (.cells (madeCells #[.int .u8 0] 12) 5)).cell 0
  have br0 := BRow.made w 5 12
  have br := BRow.setCells nm.data.toList 0 _ _ br0
  have hB : Below w.heap.size w ((w.alloc (.cells (madeCells #[.int .u8 0] 12) 5)).setCells w.heap.size 0 (nm.data.toList.map fun x => Value.int .u8 (x.toNat : Int))) :=
    below_setCells (Nat.le_refl _) _ _ _ ((Below.refl _ _).alloc (Nat.le_refl _) _)
  have c1 := rb.cell 1
  have c2 := rb.cell 2
  have c3 := rb.cell 3
  have c4 := rb.cell 4
  have r8 := br.cell (i := 8) (by omega)
  have r9 := br.cell (i := 9) (by omega)
  have r10 := br.cell (i := 10) (by omega)
  have r11 := br.cell (i := 11) (by omega)
  have f8 := br.frozen (i := 8) (by omega)
  have f9 := br.frozen (i := 9) (by omega)
  have f10 := br.frozen (i := 10) (by omega)
  have f11 := br.frozen (i := 11) (by omega)
  have hcp := run_copy_string (P := Tryz.prog) (w.alloc (.cells (madeCells #[.int .u8 0] 12) 5)) 63 9 3 5 w.heap.size 0 12 12 nm Tryz.underlying63 sizeOf8 (by omega)
    (fun j hj => by rw [Nat.zero_add, br0.cell (by omega)]; rfl) (fun j hj => by rw [Nat.zero_add]; exact br0.frozen (by omega))
  have BR := Lib.hid br
  have HB := Lib.hid hB
  clear br0 br hB rb hr
  cases us <;> cases de
  all_goals
    go_enter Tryz.func91, Tryz.ntmps91
    go_wp2_with fail
    go_ret
    have hb3 := ((HB.out.setCell (p := ⟨w.heap.size, 8, none⟩) (Nat.le_refl _) (.int .u8 (f : Int))).setCell (p := ⟨w.heap.size, 9, none⟩) (Nat.le_refl _) (.int .u8 ((l : Int) / 256))).setCell (p := ⟨w.heap.size, 10, none⟩) (Nat.le_refl _) (.int .u8 ((l : Int) % 256))
    have br3 := ((BR.out.set (i := 8) (UInt8.ofNat f) (u8_ofNat' (x := f) (by omega)).symm).set (i := 9) (UInt8.ofNat (l / 256)) (y := (l : Int) / 256) (by rw [u8_ofNat' (by omega)]; omega)).set (i := 10) (UInt8.ofNat (l % 256)) (y := (l : Int) % 256) (by rw [u8_ofNat' (by omega)]; omega)
    change BRow _ _ _ _ (entB0 nm f l) at br3
    refine ⟨_, rfl, ?_⟩
  · rw [entB_ff]
    exact ⟨br3, Nat.le_refl _, hb3⟩
  · rw [entB_ft]
    exact ⟨br3.set (i := 11) 2 rfl, Nat.le_refl _, hb3.setCell (p := ⟨w.heap.size, 11, none⟩) (Nat.le_refl _) _⟩
  · rw [entB_t]
    exact ⟨br3.set (i := 11) 1 rfl, Nat.le_refl _, hb3.setCell (p := ⟨w.heap.size, 11, none⟩) (Nat.le_refl _) _⟩
  · rw [entB_t]
    exact ⟨br3.set (i := 11) 1 rfl, Nat.le_refl _, hb3.setCell (p := ⟨w.heap.size, 11, none⟩) (Nat.le_refl _) _⟩
end Go.Proofs.YtapkckpjeoedaaaGreatDoor
