/-
  Revolutions: the program's majority and weak cells of three revolutions.
-/
import Derived.Test.YtabmdbhbbmnkdaaDoorVtA
namespace Go.Proofs.YtabmdbhbbmnkdaaDoor
open Go Go.ChangeShapes Go.WideShapes Go.ChangeAt Go.RowKit Go.Joins lib
set_option linter.unusedVariables false
set_option linter.unusedSimpArgs false
set_option maxRecDepth 100000
/-- three revolutions of n cells -/
structure Rev3 (V : Nat → List UInt8) (n : Nat) : Prop where
  len : ∀ j, j < 3 → (V j).length = n
  cell : ∀ j, j < 3 → CellL (V j)
  pos : 1 ≤ n
  max : n ≤ 8000
theorem sl3 {w : World} {B : Nat} {A : Option Addr} {V : Nat → List UInt8} (h : Sl w B A 3 (fun j => .string (strL (V j)))) : ∃ b o, A = some ⟨b, o, none⟩ ∧ b < B ∧ ∀ j, j < 3 → w.cell? ⟨b, o + j, none⟩ = some (.string (strL (V j))) := by
  obtain ⟨b, o, rfl, hb, h0⟩ := h 0 (by omega)
  refine ⟨b, o, rfl, hb, fun j hj => ?_⟩
  obtain ⟨b', o', e, _, hc⟩ := h j hj
  simp only [Option.some.injEq, Addr.mk.injEq] at e
  obtain ⟨rfl, rfl, _⟩ := e
  exact hc
theorem sizeStr_any (A : Option Addr) (n c : Nat) (w : World) (hn : n ≤ 1000000) : Calls Tryd.prog 56 #[.slice A n c] w fun e w' => e = .returned (.int .i64 (n : Int)) ∧ w' = w := by
  go_enter Tryd.func56, Tryd.ntmps56
  go_wp2
  go_ret
  exact ⟨rfl, rfl⟩
set_option maxHeartbeats 4000000 in
theorem validRev_true {V : Nat → List UInt8} {n : Nat} (hV : Rev3 V n) (A : Option Addr) (c : Nat) (w : World) (hs : Sl w w.heap.size A 3 (fun j => .string (strL (V j)))) : Calls Tryd.prog 27 #[.slice A 3 c] w fun e w' => e = .returned (.bool true) ∧ Below w.heap.size w w' := by
  obtain ⟨b, o, rfl, hbb, hc⟩ := sl3 hs
  have HC := Lib.hid hc
  have HN := Lib.hid hV.len
  have HV := Lib.hid (fun (j : Nat) (hj : j < 3) (W : World) => validCells_true (V j) (hV.cell j hj) (by rw [hV.len j hj]; exact hV.max) (by
    intro e
    have := hV.len j hj
    rw [e] at this
    have h1 := hV.pos
    simp at this
    omega) W)
  have hw : inB 1 5 (3 : Int) = true := by decide
  have HW := Lib.hid (fun W => hw ▸ withinB_any (3 : Int) 1 5 W)
  clear hc hs hw
  go_enter Tryd.func27, Tryd.ntmps27
  go_wp2_with (first
    | (go_at_call 56; refine (sizeStr_any _ _ _ _ (by omega)).mono ?_; rintro e w' ⟨rfl, hw'⟩; rw [hw']; clear hw' w')
    | (go_at_call 55; refine (HW.out _).mono ?_; rintro e w' ⟨rfl, hw'⟩; rw [hw']; clear hw' w'))
  go_loopw [11] (fun s11 wr => ∃ k : Nat, k ≤ 3 ∧ s11 = .int .i64 k ∧ Below w.heap.size w wr) (fun s11 _ => 3 - (intOf s11).toNat)
  case atStart => exact ⟨0, by omega, rfl, Below.refl _ _⟩
  case round =>
    obtain ⟨k, hk, rfl, hb⟩ := hrel
    have HB := Lib.hid hb
    have hz := hb.size
    by_cases hlt : k < 3
    · have ck : wr.cell? ⟨b, o + k, none⟩ = some (.string (strL (V k))) := (hb.cell (p := ⟨b, o + k, none⟩) hbb).trans (HC.out k hlt)
      have HVK := Lib.hid (HV.out k hlt wr)
      have zk : (strL (V k)).size = n := by rw [strL_size]; exact HN.out k hlt
      have z0 : (strL (V 0)).size = n := by rw [strL_size]; exact HN.out 0 (by omega)
      obtain ⟨X, hX⟩ : ∃ X, strL (V k) = X := ⟨_, rfl⟩
      rw [hX] at ck HVK zk
      have HC0 := Lib.hid (HC.out 0 (by omega))
      obtain ⟨X0, hX0⟩ : ∃ X, strL (V 0) = X := ⟨_, rfl⟩
      rw [hX0] at z0 HC0
      have hki : (k : Int) < 3 := by omega
      clear hX hX0 hb
      go_wp2_with (go_at_call 57; refine HVK.out.mono ?_; rintro e w1 ⟨rfl, hb1⟩; have HB1 := Lib.hid (HB.out.trans (hb1.mono hz)); have c0 : w1.cell? ⟨b, o, none⟩ = some (.string X0) := (HB1.out.cell (p := ⟨b, o, none⟩) hbb).trans HC0.out; clear hb1)
      exact ⟨⟨k + 1, by omega, by go_num, HB1.out⟩, by simp [intOf] <;> omega⟩
    · obtain rfl : k = 3 := by omega
      go_wp2_with fail
      go_ret
      exact ⟨rfl, HB.out⟩
/-- how many of the first k revolutions have a 1 at i -/
def majN (V : Nat → List UInt8) (i : Nat) : Nat → Nat
  | 0 => 0
  | k + 1 => majN V i k + (if (V k).getD i 0 = 49 then 1 else 0)
theorem majN_le (V : Nat → List UInt8) (i : Nat) : ∀ k, majN V i k ≤ k
  | 0 => Nat.le_refl _
  | k + 1 => by
    have := majN_le V i k
    unfold majN
    split <;> omega
def majB (V : Nat → List UInt8) (i : Nat) : UInt8 := if 3 < 2 * majN V i 3 then 49 else 48
def majU (V : Nat → List UInt8) (i k : Nat) : UInt8 := if k < i then majB V k else 0
theorem majU_step0 (V : Nat → List UInt8) (n i : Nat) (h : 3 < 2 * majN V i 3) (k : Nat) : upd (upd (majU V i) i 48) i 49 k = majU V (i + 1) k := by
  unfold upd majU
  by_cases e : k = i
  · subst e
    rw [if_pos rfl, if_pos (by omega)]
    unfold majB
    rw [if_pos h]
  · rw [if_neg e, if_neg e]
    by_cases h2 : k < i
    · rw [if_pos h2, if_pos (by omega)]
    · rw [if_neg h2, if_neg (by omega)]
theorem majU_step1 (V : Nat → List UInt8) (n i : Nat) (h : ¬ 3 < 2 * majN V i 3) (k : Nat) : upd (majU V i) i 48 k = majU V (i + 1) k := by
  unfold upd majU
  by_cases e : k = i
  · subst e
    rw [if_pos rfl, if_pos (by omega)]
    unfold majB
    rw [if_neg h]
  · rw [if_neg e]
    by_cases h2 : k < i
    · rw [if_pos h2, if_pos (by omega)]
    · rw [if_neg h2, if_neg (by omega)]
theorem cell_of {l : List UInt8} (hc : CellL l) {i : Nat} (hi : i < l.length) : l.getD i 0 = 48 ∨ l.getD i 0 = 49 := hc _ (by rw [List.getD_eq_getElem?_getD, List.getElem?_eq_getElem hi]; exact List.getElem_mem hi)
set_option maxHeartbeats 4000000 in
theorem majority_any {V : Nat → List UInt8} {n : Nat} (hV : Rev3 V n) (A : Option Addr) (c : Nat) (w : World) (hs : Sl w w.heap.size A 3 (fun j => .string (strL (V j)))) : Calls Tryd.prog 10 #[.slice A 3 c] w fun e w' => e = .returned (.tuple #[.string (bstr n (majB V)), .int .i64 0]) ∧ Below w.heap.size w w' := by
  have HVR := Lib.hid (validRev_true hV A c w hs)
  obtain ⟨b, o, rfl, hbb, hc⟩ := sl3 hs
  have HC := Lib.hid hc
  have HN := Lib.hid hV.len
  have HCE := Lib.hid hV.cell
  have hn8 := hV.max
  have hn1 := hV.pos
  have hmk : ∀ W : World, (Instr.makeSlice 22 (.int .i64 (n : Int)) (.int .i64 (n : Int))).run Tryd.prog W = .ok (.slice (some ⟨W.heap.size, 0, none⟩) n n) (W.alloc (.cells (madeCells #[.int .u8 0] n) 5)) := fun W => by
    have := run_mk (P := Tryd.prog) 22 5 (.int .u8 0) 1 1 Tryd.underlying22 (by kernel_rfl) (by omega) n (by omega) W
    rwa [Nat.mul_one] at this
  have z0 : (strL (V 0)).size = n := by rw [strL_size]; exact hV.len 0 (by omega)
  have HC0 := Lib.hid (hc 0 (by omega))
  obtain ⟨X0, hX0⟩ : ∃ X, strL (V 0) = X := ⟨_, rfl⟩
  rw [hX0] at z0 HC0
  clear hX0 hc hs hV
  go_enter Tryd.func10, Tryd.ntmps10
  go_upto_region 4 with (go_at_call 27; refine HVR.out.mono ?_; rintro e w1 ⟨rfl, hb1⟩; have HB1 := Lib.hid hb1; have c0 : w1.cell? ⟨b, o, none⟩ = some (.string X0) := (hb1.cell (p := ⟨b, o, none⟩) hbb).trans HC0.out; clear hb1)
  have HB2 := Lib.hid (HB1.out.alloc HB1.out.size (.cells (madeCells #[.int .u8 0] n) 5))
  have HR2 := Lib.hid ((BRow.made w1 5 n).congr (v := majU V 0) (fun i hi => by unfold majU; rw [if_neg (by omega)]))
  obtain ⟨g, hg⟩ : ∃ g, w1.heap.size = g := ⟨_, rfl⟩
  have hgz : w.heap.size ≤ g := by have := HB1.out.size; omega
  rw [hg] at HR2
  try rw [hg]
  clear hg hmk c0 z0
  generalize w1.alloc (.cells (madeCells #[.int .u8 0] n) 5) = W2 at *
  go_wp2_with fail
  go_loopw [19] (fun s19 wr => ∃ i : Nat, i ≤ n ∧ s19 = .int .i64 i ∧ BRow wr 5 g n (majU V i) ∧ Below w.heap.size w wr) (fun s19 _ => n - (intOf s19).toNat)
  case atStart => exact ⟨0, by omega, rfl, HR2.out, HB2.out⟩
  case round =>
    obtain ⟨i, hi, rfl, hr, hb⟩ := hrel
    have HR := Lib.hid hr
    have HB := Lib.hid hb
    clear hr hb
    by_cases hlt : i < n
    · have hii : (i : Int) < (n : Int) := by omega
      go_wp2_with fail
      go_loopw [6, 24] (fun s6 s24 wx => ∃ k : Nat, k ≤ 3 ∧ s24 = .int .i64 k ∧ s6 = .int .i64 (majN V i k : Nat) ∧ wx = wr) (fun _ s24 _ => 3 - (intOf s24).toNat)
      case atStart => exact ⟨0, by omega, rfl, rfl, rfl⟩
      case round =>
        obtain ⟨k, hk, rfl, rfl, rfl⟩ := hrel
        by_cases hl3 : k < 3
        · have ck : wr.cell? ⟨b, o + k, none⟩ = some (.string (strL (V k))) := (HB.out.cell (p := ⟨b, o + k, none⟩) hbb).trans (HC.out k hl3)
          have zk : (strL (V k)).size = n := by rw [strL_size]; exact HN.out k hl3
          have hy := byteAt_strL (V k) i
          have hyc := cell_of (HCE.out k hl3) (show i < (V k).length by rw [HN.out k hl3]; exact hlt)
          have hmle := majN_le V i k
          have HST := Lib.hid (show majN V i (k + 1) = majN V i k + (if (V k).getD i 0 = 49 then 1 else 0) from rfl)
          obtain ⟨y, hyy⟩ : ∃ y, (V k).getD i 0 = y := ⟨_, rfl⟩
          rw [hyy] at hy hyc HST
          obtain ⟨X, hX⟩ : ∃ X, strL (V k) = X := ⟨_, rfl⟩
          rw [hX] at ck zk hy
          have hgt := byteAt_get X i (by omega)
          rw [hy] at hgt
          obtain ⟨M, hM⟩ : ∃ M, majN V i k = M := ⟨_, rfl⟩
          rw [hM] at hmle HST ⊢
          have hki : (k : Int) < 3 := by omega
          clear hyy hX hy hM
          rcases hyc with rfl | rfl
          · go_wp2_with fail
            exact ⟨⟨k + 1, by omega, by go_num, by rw [HST.out]; rfl, trivial⟩, by simp [intOf] <;> omega⟩
          · go_wp2_with fail
            exact ⟨⟨k + 1, by omega, by go_num, by rw [HST.out]; rfl, trivial⟩, by simp [intOf] <;> omega⟩
        · obtain rfl : k = 3 := by omega
          have c1 := HR.out.cell hlt
          have f1 := HR.out.frozen hlt
          have hr1 := HR.out.set (i := i) 48 (y := 48) rfl
          have HR1 := Lib.hid hr1
          have c2 := hr1.cell hlt
          have f2 := hr1.frozen hlt
          have HB3 := Lib.hid (HB.out.setCell (p := ⟨g, i, none⟩) hgz (.int .u8 48))
          have hml := majN_le V i 3
          by_cases hm : 3 < 2 * majN V i 3
          · have HU := Lib.hid (majU_step0 V n i hm)
            obtain ⟨M, hM⟩ : ∃ M, majN V i 3 = M := ⟨_, rfl⟩
            rw [hM] at hm hml ⊢
            have hmi : (3 : Int) < 2 * (M : Int) := by omega
            clear hM hr1
            go_wp2_with fail
            exact ⟨⟨i + 1, by omega, by go_num, (HR1.out.set (i := i) 49 (y := 49) rfl).congr (fun k _ => HU.out k), HB3.out.setCell (p := ⟨g, i, none⟩) hgz (.int .u8 49)⟩, by simp [intOf] <;> omega⟩
          · have HU := Lib.hid (majU_step1 V n i hm)
            obtain ⟨M, hM⟩ : ∃ M, majN V i 3 = M := ⟨_, rfl⟩
            rw [hM] at hm hml ⊢
            have hmi : ¬ (3 : Int) < 2 * (M : Int) := by omega
            clear hM hr1
            go_wp2_with fail
            exact ⟨⟨i + 1, by omega, by go_num, HR1.out.congr (fun k _ => HU.out k), HB3.out⟩, by simp [intOf] <;> omega⟩
    · obtain rfl : i = n := by omega
      have hcv := run_bstr (P := Tryd.prog) (w := wr) (B := wr.heap.size) (c := i) 22 9 5 Tryd.underlying22 Tryd.underlying5 Tryd.underlying9 (u := majU V i) HR.out.sl (by simp)
      have HE := Lib.hid (show bstr i (majU V i) = bstr i (majB V) by
        unfold bstr
        congr 2
        apply List.map_congr_left
        intro k hk
        rw [List.mem_range] at hk
        unfold majU
        rw [if_pos hk])
      rw [HE.out] at hcv
      go_wp2_with fail
      go_ret2
      exact ⟨rfl, HB.out⟩
def difB (V : Nat → List UInt8) (i : Nat) : Bool := (V 1).getD i 0 != (V 0).getD i 0 || (V 2).getD i 0 != (V 0).getD i 0
def weakL (V : Nat → List UInt8) (i : Nat) : List Nat := (List.range i).filter (difB V)
theorem weakL_succ (V : Nat → List UInt8) (i : Nat) : weakL V (i + 1) = weakL V i ++ (if difB V i then [i] else []) := by
  unfold weakL
  rw [List.range_succ, List.filter_append]
  cases h : difB V i <;> simp [h]
theorem weakL_len (V : Nat → List UInt8) (i : Nat) : (weakL V i).length ≤ i := by
  unfold weakL
  have := List.length_filter_le (difB V) (List.range i)
  rwa [List.length_range] at this
def natV (l : List Nat) : List Value := l.map fun (x : Nat) => Value.int .i64 (x : Int)
theorem infoI64 : (Tryd.prog.info? 2).map (fun i => (i.zero, i.size, i.bytes)) = some (some (.int .i64 0), 1, 8) := by kernel_rfl
def DifOut (V : Nat → List UInt8) (n : Nat) (w w' : World) (e : Ending) : Prop := ∃ A2 c2, e = .returned (.slice A2 (weakL V n).length c2) ∧ w'.ownsRow w.heap.size 2 1 (.slice A2 (weakL V n).length c2) (weakL V n).length (natV (weakL V n)) ∧ Below w.heap.size w w'
set_option maxHeartbeats 4000000 in
theorem differing_any {V : Nat → List UInt8} {n : Nat} (hV : Rev3 V n) (A : Option Addr) (c : Nat) (w : World) (hs : Sl w w.heap.size A 3 (fun j => .string (strL (V j)))) : Calls Tryd.prog 28 #[.slice A 3 c] w fun e w' => DifOut V n w w' e := by
  obtain ⟨b, o, rfl, hbb, hc⟩ := sl3 hs
  have HC := Lib.hid hc
  have HN := Lib.hid hV.len
  have hn8 := hV.max
  have z0 : (strL (V 0)).size = n := by rw [strL_size]; exact hV.len 0 (by omega)
  have c0 : w.cell? ⟨b, o, none⟩ = some (.string (strL (V 0))) := hc 0 (by omega)
  have HC0 := Lib.hid c0
  obtain ⟨X0, hX0⟩ : ∃ X, strL (V 0) = X := ⟨_, rfl⟩
  rw [hX0] at z0 c0 HC0
  have HX0 := Lib.hid hX0
  clear hX0 hc hs hV
  go_enter Tryd.func28, Tryd.ntmps28
  go_wp2_with fail
  go_loopw [3, 11] (fun s3 s11 wr => ∃ (i m : Nat) (A2 : Option Addr) (c2 : Nat), i ≤ n ∧ (weakL V i).length = m ∧ s11 = .int .i64 i ∧ s3 = .slice A2 m c2 ∧ wr.ownsRow w.heap.size 2 1 (.slice A2 m c2) m (natV (weakL V i)) ∧ Below w.heap.size w wr) (fun _ s11 _ => n - (intOf s11).toNat)
  case atStart => exact ⟨0, 0, none, 0, by omega, rfl, rfl, rfl, ⟨rfl, .inl ⟨rfl, rfl⟩⟩, Below.refl _ _⟩
  case round =>
    obtain ⟨i, m, A2, c2, hi, hm, rfl, rfl, ho, hb⟩ := hrel
    have HM := Lib.hid hm
    have HO := Lib.hid ho
    have HB := Lib.hid hb
    have hz := hb.size
    have hml := weakL_len V i
    rw [hm] at hml
    clear hm ho hb
    by_cases hlt : i < n
    · have hii : (i : Int) < (n : Int) := by omega
      have HSU := Lib.hid (weakL_succ V i)
      have HDB := Lib.hid (show difB V i = ((V 1).getD i 0 != (V 0).getD i 0 || (V 2).getD i 0 != (V 0).getD i 0) from rfl)
      have hy0 : byteAt X0 i = (V 0).getD i 0 := by rw [← HX0.out, byteAt_strL]
      obtain ⟨y0, hy0'⟩ : ∃ y, (V 0).getD i 0 = y := ⟨_, rfl⟩
      rw [hy0'] at hy0 HDB
      have HY0 := Lib.hid hy0'
      have hg0 := byteAt_get X0 i (by omega)
      rw [hy0] at hg0
      clear hy0 hy0'
      rename World => wo
      go_wp2_with fail
      go_loopw [3, 16] (fun s3 s16 wx => ∃ k m' : Nat, k ≤ 3 ∧ s16 = .int .i64 k ∧ s3 = .slice A2 m c2 ∧ (∀ j, j < k → (V j).getD i 0 = y0) ∧ wx = wo.drewN m') (fun _ s16 _ => 3 - (intOf s16).toNat)
      case atStart => exact ⟨0, 0, by omega, rfl, rfl, fun j hj => by omega, rfl⟩
      case round =>
        obtain ⟨k, m', hk, rfl, rfl, hall, hwx⟩ := hrel
        have HALL := Lib.hid hall
        have HWX := Lib.hid hwx
        clear hall hwx
        by_cases hl3 : k < 3
        · have HBX := Lib.hid (show Below w.heap.size w wr by rw [HWX.out]; exact HB.out.drewN m')
          have HOX := Lib.hid (show wr.ownsRow w.heap.size 2 1 (.slice A2 m c2) m (natV (weakL V i)) by rw [HWX.out]; exact own_below HO.out ((Below.refl _ _).drewN m'))
          have ck : wr.cell? ⟨b, o + k, none⟩ = some (.string (strL (V k))) := (HBX.out.cell (p := ⟨b, o + k, none⟩) hbb).trans (HC.out k hl3)
          have c0x : wr.cell? ⟨b, o, none⟩ = some (.string X0) := (HBX.out.cell (p := ⟨b, o, none⟩) hbb).trans HC0.out
          have zk : (strL (V k)).size = n := by rw [strL_size]; exact HN.out k hl3
          have hy := byteAt_strL (V k) i
          obtain ⟨X, hX⟩ : ∃ X, strL (V k) = X := ⟨_, rfl⟩
          rw [hX] at ck zk hy
          have hgt := byteAt_get X i (by omega)
          rw [hy] at hgt
          have hki : (k : Int) < 3 := by omega
          by_cases hd : (V k).getD i 0 = y0
          · rw [hd] at hgt
            have HD := Lib.hid hd
            clear hX hy hd
            go_wp2_with fail
            go_quiet (fail)
            go_wp2_with fail
            refine ⟨⟨k + 1, m' + nq, by omega, by go_num, rfl, fun j hj => ?_, by rw [HWX.out, World.drewN_drewN]⟩, by simp [intOf] <;> omega⟩
            rcases Nat.lt_succ_iff_lt_or_eq.1 hj with h | rfl
            · exact HALL.out j h
            · exact HD.out
          · have HD := Lib.hid hd
            obtain ⟨y, hyy⟩ : ∃ y, (V k).getD i 0 = y := ⟨_, rfl⟩
            rw [hyy] at hgt hd
            have hne : ((y.toNat : Int) != (y0.toNat : Int)) = true := by
              rw [bne_iff_ne]
              intro e
              exact hd (UInt8.toNat_inj.1 (by omega))
            have hne2 : ((y.toNat : Int) = (y0.toNat : Int)) = False := by
              rw [eq_iff_iff]
              simp only [iff_false]
              intro e
              exact hd (UInt8.toNat_inj.1 (by omega))
            have HDT := Lib.hid (show difB V i = true by
              rw [HDB.out]
              have : k = 0 ∨ k = 1 ∨ k = 2 := by omega
              rcases this with rfl | rfl | rfl
              · exact absurd HY0.out HD.out
              · rw [Bool.or_eq_true, bne_iff_ne]; exact .inl HD.out
              · rw [Bool.or_eq_true, bne_iff_ne, bne_iff_ne]; exact .inr HD.out)
            clear hX hy hd hyy
            go_wp2_with fail
            go_quiet (fail)
            have HO9 := Lib.hid (show (wr.drewN nq).ownsRow w.heap.size 2 1 (.slice A2 m c2) m (natV (weakL V i)) from own_below HOX.out ((Below.refl _ _).drewN nq))
            have HB9 := Lib.hid (HBX.out.drewN nq)
            generalize wr.drewN nq = w9 at *
            go_wp2_with (at_builtin; refine wpList_push (.tmp 29) (.tmp 31) 30 w.heap.size 2 (.int .i64 0) (.int .i64 (i : Int)) 8 _ m _ HO9.out rfl rfl Tryd.underlying30 infoI64 rfl rfl rfl rfl rfl (by omega) (by omega) HB9.out.size ?_; intro A6 c6 w6 ho6 hb6)
            refine ⟨⟨i + 1, m + 1, some A6, c6, by omega, ?_, by go_num, rfl, ?_, HB9.out.trans hb6⟩, by simp [intOf] <;> omega⟩
            · rw [HSU.out, HDT.out, List.length_append, HM.out]; rfl
            · rw [HSU.out, HDT.out]
              unfold natV at *
              rw [if_pos rfl, List.map_append]
              exact ho6
        · obtain rfl : k = 3 := by omega
          have HDF := Lib.hid (show difB V i = false by
            rw [HDB.out, HALL.out 1 (by omega), HALL.out 2 (by omega)]
            simp)
          go_wp2_with fail
          refine ⟨⟨i + 1, m, A2, c2, by omega, ?_, by go_num, rfl, ?_, by rw [HWX.out]; exact HB.out.drewN m'⟩, by simp [intOf] <;> omega⟩
          · rw [HSU.out, HDF.out, List.length_append, HM.out]; rfl
          · rw [HSU.out, HDF.out, HWX.out]
            have := own_below HO.out ((Below.refl wo.heap.size wo).drewN m')
            simpa using this
    · obtain rfl : i = n := by omega
      go_wp2_with fail
      go_ret
      have hm := HM.out
      subst hm
      exact ⟨A2, c2, rfl, HO.out, HB.out⟩
def WeakOut (V : Nat → List UInt8) (n : Nat) (w w' : World) (e : Ending) : Prop := ∃ A2 c2, e = .returned (.tuple #[.slice A2 (weakL V n).length c2, .int .i64 0]) ∧ w'.ownsRow w.heap.size 2 1 (.slice A2 (weakL V n).length c2) (weakL V n).length (natV (weakL V n)) ∧ Below w.heap.size w w'
theorem weak_any {V : Nat → List UInt8} {n : Nat} (hV : Rev3 V n) (A : Option Addr) (c : Nat) (w : World) (hs : Sl w w.heap.size A 3 (fun j => .string (strL (V j)))) : Calls Tryd.prog 11 #[.slice A 3 c] w fun e w' => WeakOut V n w w' e := by
  have HVR := Lib.hid (validRev_true hV A c w hs)
  have HD := Lib.hid (fun (W : World) (hW : Below w.heap.size w W) => differing_any hV A c W ((hs.below hW).more hW.size))
  clear hs hV
  go_enter Tryd.func11, Tryd.ntmps11
  go_wp2_with (first
    | (go_at_call 27; refine HVR.out.mono ?_; rintro e w1 ⟨rfl, hb1⟩)
    | (go_at_call 28; refine (HD.out _ hb1).mono ?_; rintro e w2 ⟨A2, c2, rfl, ho, hb2⟩))
  go_ret2
  exact ⟨A2, c2, rfl, own_base ho hb1.size, hb1.trans (hb2.mono hb1.size)⟩
end Go.Proofs.YtabmdbhbbmnkdaaDoor
