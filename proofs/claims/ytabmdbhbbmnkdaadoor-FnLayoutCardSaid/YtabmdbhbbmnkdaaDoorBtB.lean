/-
  Tracks: the program's writer: a builder of strings in a struct.
-/
import Derived.Test.YtabmdbhbbmnkdaaDoorBld
import Derived.Test.YtabmdbhbbmnkdaaDoorBtE
import Derived.Lib.UnsafeStr
namespace Go.Proofs.YtabmdbhbbmnkdaaDoor
open Go Go.ChangeShapes Go.WideShapes Go.ChangeAt Go.RowKit lib
set_option linter.unusedVariables false
set_option linter.unusedSimpArgs false
set_option maxRecDepth 100000
/-- a writer of tracks in a block of its own -/
def TW (B b : Nat) (f : Int) (last : Bool) (l : List UInt8) (w : World) : Prop :=
  B ≤ b ∧ ∃ p v, (p = .pointer none ∨ p = .pointer (some ⟨b, 2, none⟩)) ∧ w.heap[b]? = some (.cells #[.int .i64 f, .bool last, p, v] 99 (0, 0)) ∧ w.ownsRow B 5 1 v l.length (Lib.byteCells l) ∧ v.ownBlock ≠ some b
theorem TW.lt {B b : Nat} {f : Int} {last : Bool} {l : List UInt8} {w : World} (h : TW B b f last l w) : b < w.heap.size := by
  obtain ⟨_, p, v, _, hb, _⟩ := h
  rcases Nat.lt_or_ge b w.heap.size with h' | h'
  · exact h'
  · simp [Array.getElem?_eq_none h'] at hb
theorem TW.below {B b : Nat} {f : Int} {last : Bool} {l : List UInt8} {w w' : World} (h : TW B b f last l w) (hb : Below w.heap.size w w') : TW B b f last l w' := by
  have hlt := h.lt
  obtain ⟨h1, p, v, hp, h2, h3, h4⟩ := h
  exact ⟨h1, p, v, hp, (hb.block b hlt).trans h2, own_below h3 hb, h4⟩
theorem TW.cell0 {B b : Nat} {f : Int} {last : Bool} {l : List UInt8} {w : World} (h : TW B b f last l w) : w.cell? ⟨b, 0, none⟩ = some (.int .i64 f) := by
  obtain ⟨_, p, v, _, hb, _⟩ := h
  rw [Lib.cell_of_heap hb]; rfl
theorem TW.cell1 {B b : Nat} {f : Int} {last : Bool} {l : List UInt8} {w : World} (h : TW B b f last l w) : w.cell? ⟨b, 1, none⟩ = some (.bool last) := by
  obtain ⟨_, p, v, _, hb, _⟩ := h
  rw [Lib.cell_of_heap hb]; rfl
theorem TW.frozen {B b : Nat} {f : Int} {last : Bool} {l : List UInt8} {w : World} (h : TW B b f last l w) (k : Nat) : w.frozen? ⟨b, k, none⟩ = false := by
  obtain ⟨_, p, v, _, hb, _⟩ := h
  exact Lib.frozen_of_heap hb k
theorem TW.setLast {B b : Nat} {f : Int} {last : Bool} {l : List UInt8} {w : World} (h : TW B b f last l w) (x : Bool) : TW B b f x l (w.setCell ⟨b, 1, none⟩ (.bool x)) := by
  obtain ⟨hB, p, v, hp, hb, hown, hne⟩ := h
  refine ⟨hB, p, v, hp, ?_, ?_, hne⟩
  · simp [World.setCell, Array.getElem?_modify, hb]
  · exact hown.kept (row := some b) ⟨rfl, rfl, rfl, by simp [World.setCell], fun k _ hk => Below.heap_setCell _ _ _ _ (fun e => hk (by simp [e]))⟩ (Or.inr hne)
/-- rows of other types than bytes, but for the block b, stay -/
def KpW (b : Nat) (w w' : World) : Prop := ∀ k cs e fr, w.heap[k]? = some (.cells cs e fr) → e ≠ 5 → k ≠ b → w'.heap[k]? = some (.cells cs e fr)
theorem KpW.refl (b : Nat) (w : World) : KpW b w w := fun k cs e fr h _ _ => h
theorem KpW.trans {b : Nat} {w w1 w2 : World} (h : KpW b w w1) (h' : KpW b w1 w2) : KpW b w w2 := fun k cs e fr hk he hb => h' k cs e fr (h k cs e fr hk he hb) he hb
theorem KpW.below {b : Nat} {w w1 : World} (h : Below w.heap.size w w1) : KpW b w w1 := fun k cs e fr hk _ _ => (h.block k (Array.getElem?_eq_some_iff.1 hk).1).trans hk
theorem KpW.set {b j : Nat} {w : World} {u : Value} : KpW b w (w.setCell ⟨b, j, none⟩ u) := fun k cs e fr hk _ hb => (Below.heap_setCell w ⟨b, j, none⟩ u k (fun e => hb e)).trans hk
theorem KpW.grown {B b n : Nat} {v : Value} {bs : List Value} {w w' : World} (ho : w.ownsRow B 5 1 v n bs) (h : w.grownBy w' v.ownBlock) : KpW b w w' := fun k cs e fr hk he hb => (h.block k (Array.getElem?_eq_some_iff.1 hk).1 (fun e2 => Lib.ownBlock_ne ho (b := k) (by
  have := hk
  exact this) he e2.symm)).trans hk
theorem tw_copyCheck {B b : Nat} {f : Int} {last : Bool} {p v : Value} {w : World} (hB : B ≤ b) (hp : p = .pointer none ∨ p = .pointer (some ⟨b, 2, none⟩)) (hb : w.heap[b]? = some (.cells #[.int .i64 f, .bool last, p, v] 99 (0, 0))) {bs : List Value} (hown : w.ownsRow B 5 1 v bs.length bs) (hne : v.ownBlock ≠ some b) :
    Calls Tryd.prog 110 #[.pointer (some ⟨b, 2, none⟩)] w fun e w' => e = .returned (.tuple #[]) ∧ w'.heap[b]? = some (.cells #[.int .i64 f, .bool last, .pointer (some ⟨b, 2, none⟩), v] 99 (0, 0)) ∧ w'.ownsRow B 5 1 v bs.length bs ∧ Below B w w' ∧ KpW b w w' := by
  obtain ⟨j, hj, hjs⟩ := Option.map_eq_some_iff.1 (show (Tryd.prog.info? 97).map (·.size) = some 2 by kernel_rfl)
  have h0 : w.cell? ⟨b, 2, none⟩ = some p := by rw [Lib.cell_of_heap hb]; rfl
  rcases hp with rfl | rfl
  · have hsh : w.shape? b = some (99, 4) := by simp [World.shape?, hb]
    have hfz := Lib.frozen_of_heap hb 2
    have HB := Lib.hid hb
    have HO := Lib.hid hown
    clear hb hown
    go_enter Tryd.func110, Tryd.ntmps110
    go_wp2
    rw [Lib.run_to_unsafe w ⟨b, 2, none⟩ Tryd.underlying95 Tryd.underlying142 hj (by rw [hjs]; decide) hsh (show 2 < 4 by decide)]
    simp only [Result.andThen]
    rw [Oper.upon_value]
    go_wp2
    rw [run_callFunc_extern Tryd.func120 (by kernel_rfl) (by kernel_rfl) (by kernel_rfl) (e := Extern.AbiNoEscape.same) (by kernel_rfl)]
    rw [Lib.run_noEscape]
    simp only [Result.andThen]
    rw [Oper.upon_value]
    go_wp2
    rw [Lib.run_from_unsafe w ⟨b, 2, none⟩ Tryd.underlying142 Tryd.underlying95 hj hsh (by kernel_rfl)]
    simp only [Result.andThen]
    rw [Oper.upon_value]
    go_wp2
    go_end0
    refine ⟨rfl, ?_, ?_, (Below.refl B w).setCell (p := ⟨b, 2, none⟩) hB _, KpW.set⟩
    · have hb := HB.out
      simp [World.setCell, Array.getElem?_modify, hb]
    · exact HO.out.kept (row := some b) ⟨rfl, rfl, rfl, by simp [World.setCell], fun k _ hk => Below.heap_setCell _ _ _ _ (fun e => hk (by simp [e]))⟩ (Or.inr hne)
  · have HB := Lib.hid hb
    have HO := Lib.hid hown
    clear hb hown
    go_enter Tryd.func110, Tryd.ntmps110
    go_wp2
    rw [Lib.run_neq_ptr_same w _ Tryd.underlying95 hj]
    go_wp2
    go_end0
    exact ⟨rfl, HB.out, HO.out, Below.refl B _, KpW.refl b _⟩
theorem byteCells_append (l : List UInt8) (s : ByteArray) : Lib.byteCells l ++ Lib.strCells s = Lib.byteCells (l ++ s.data.toList) := by
  unfold Lib.byteCells Lib.strCells
  rw [List.map_append]
theorem tw_writeString {B b : Nat} {f : Int} {last : Bool} {l : List UInt8} (s : ByteArray) {w : World} (h : TW B b f last l w) (hlen : l.length + s.size ≤ 1048576) (hBw : B ≤ w.heap.size) :
    Calls Tryd.prog 92 #[.pointer (some ⟨b, 2, none⟩), .string s] w fun e w' => e = .returned (.tuple #[.int .i64 s.size, .nilIface]) ∧ TW B b f last (l ++ s.data.toList) w' ∧ Below B w w' ∧ KpW b w w' := by
  obtain ⟨i0, hi, hz0, hz1, hz2⟩ := info_parts (show (Tryd.prog.info? 5).map (fun i => (i.zero, i.size, i.bytes)) = some (some (.int .u8 0), 1, 1) by kernel_rfl)
  have hBb := h.1
  obtain ⟨hB, p, v, hp, hb, hown, hne⟩ := h
  have hlz : (Lib.byteCells l).length = l.length := Lib.byteCells_length l
  rw [← hlz] at hown hlen
  have HC := Lib.hid (tw_copyCheck hB hp hb hown hne)
  clear hb hown hp
  go_enter Tryd.func92, Tryd.ntmps92
  go_upto_region 2 with (go_at_call 110; refine HC.out.mono ?_; rintro e w1 ⟨rfl, hbk, hown, hb1, hkp1⟩; have HKP := Lib.hid hkp1; clear hkp1; have c0 : w1.cell? ⟨b, 2, none⟩ = some (.pointer (some ⟨b, 2, none⟩)) := (by rw [Lib.cell_of_heap hbk]; rfl); have c1 : w1.cell? ⟨b, 3, none⟩ = some v := (by rw [Lib.cell_of_heap hbk]; rfl))
  have hzb := hb1.size
  have hl1 : b < w1.heap.size := by
    rcases Nat.lt_or_ge b w1.heap.size with h' | h'
    · exact h'
    · simp [Array.getElem?_eq_none h'] at hbk
  go_wp2_with (at_builtin; refine Lib.wpList_append_own_string _ rfl _ _ 22 9 rfl B 5 i0 Tryd.underlying22 Tryd.underlying9 hi hz0 hz1 hz2 _ _ _ rfl hown s rfl (by unfold maxLen; omega) (by omega) (by omega) ?_; intro v' w2 hown' hgrow hx; have hlt : b < w1.heap.size := hl1; have hb2 : w2.heap[b]? = some (.cells #[.int .i64 f, .bool last, .pointer (some ⟨b, 2, none⟩), v] 99 (0, 0)) := (by rw [hgrow.block b hlt (fun e => hne e.symm)]; exact hbk); have d0 : w2.cell? ⟨b, 2, none⟩ = some (.pointer (some ⟨b, 2, none⟩)) := (by rw [Lib.cell_of_heap hb2]; rfl); have d1 : w2.cell? ⟨b, 3, none⟩ = some v := (by rw [Lib.cell_of_heap hb2]; rfl); have f1 : w2.frozen? ⟨b, 3, none⟩ = false := Lib.frozen_of_heap hb2 3; obtain ⟨ao, n', cap, rfl⟩ : ∃ ao n' cap, v' = .slice ao n' cap := (by rcases hown'.2 with ⟨hv, _⟩ | ⟨g, cap, cur, hv, _⟩ <;> exact ⟨_, _, _, hv⟩))
  go_ret2
  have hcl : (Lib.byteCells l ++ Lib.strCells s).length = (l ++ s.data.toList).length := by rw [byteCells_append, Lib.byteCells_length]
  have hown2 : w2.ownsRow B 5 1 (.slice ao n' cap) (l ++ s.data.toList).length (Lib.byteCells (l ++ s.data.toList)) := by
    rw [← byteCells_append]
    rw [← hcl]
    simpa [Lib.strCells_length] using hown'
  have hne2 : (Value.slice ao n' cap).ownBlock ≠ some b := Lib.ownBlock_ne hown2 hb2 (by decide)
  refine ⟨rfl, ⟨hBb, .pointer (some ⟨b, 2, none⟩), .slice ao n' cap, .inr rfl, ?_, ?_, hne2⟩, ?_, (HKP.out.trans (KpW.grown hown hgrow)).trans KpW.set⟩
  · simp [World.setCell, Array.getElem?_modify, hb2]
  · exact hown2.kept (row := some b) ⟨rfl, rfl, rfl, by simp [World.setCell], fun k _ hk => Below.heap_setCell _ _ _ _ (fun e => hk (by simp [e]))⟩ (Or.inr hne2)
  · exact (hb1.grown hgrow (by have := hb1.size; omega) (fun k hk => (hown.lt k hk).1)).setCell (p := ⟨b, 3, none⟩) hBb _
set_option maxHeartbeats 2000000 in
theorem tw_string {B b : Nat} {f : Int} {last : Bool} {l : List UInt8} {w : World} (h : TW B b f last l w) (h0 : l ≠ []) :
    Calls Tryd.prog 64 #[.pointer (some ⟨b, 2, none⟩)] w fun e w' => e = .returned (.string ⟨l.toArray⟩) ∧ Below B w w' := by
  obtain ⟨hB, p, v, hp, hbk, hown, hne⟩ := h
  have hl0 : l.length ≠ 0 := by simpa using h0
  obtain ⟨g, cap, cur, rfl, hbg, hg, hnc, hcm, hcs, htake⟩ : ∃ g cap cur, v = .slice (some ⟨g, 0, none⟩) l.length cap ∧ B ≤ g ∧ w.heap[g]? = some (.cells cur 5 (0, 0)) ∧ l.length ≤ cap ∧ cap ≤ maxLen ∧ cur.size = cap * 1 ∧ cur.toList.take (l.length * 1) = Lib.byteCells l := by
    rcases hown.2 with ⟨_, hz⟩ | ⟨g, cap, cur, hv, r⟩
    · exact absurd hz hl0
    · exact ⟨g, cap, cur, hv, r⟩
  have c1 : w.drew.cell? ⟨b, 3, none⟩ = some (.slice (some ⟨g, 0, none⟩) l.length cap) := by
    have : w.drew.heap[b]? = some (.cells #[.int .i64 f, .bool last, p, .slice (some ⟨g, 0, none⟩) l.length cap] 99 (0, 0)) := hbk
    rw [Lib.cell_of_heap this]; rfl
  have hSD : (Builtin.unsafeSliceData_ #[22] 130 #[.slice (some ⟨g, 0, none⟩) l.length cap]).run Tryd.prog w.drew = .ok (.pointer (some ⟨g, 0, none⟩)) w.drew :=
    Lib.run_unsafeSliceData_row _ _ _ _ _ _ (by omega)
  have hUS : (Builtin.unsafeString_ #[130, 3] 9 #[.pointer (some ⟨g, 0, none⟩), .int .i64 l.length]).run Tryd.prog w.drew = .ok (.string ⟨l.toArray⟩) (w.drew.freeze ⟨g, 0, none⟩ l.length) := by
    refine Lib.run_unsafeString_row w.drew 130 3 9 5 Tryd.underlying130 (by kernel_rfl) g cur.size (by have hg' : w.drew.heap[g]? = some (.cells cur 5 (0, 0)) := hg; simp [World.shape?, hg']) l h0 (by omega) (by unfold maxLen at hcm; omega) ?_
    intro j x hx
    exact hown.cells (g := g) rfl j (.int .u8 x.toNat) (by simp [Lib.byteCells, hx])
  clear hown hnc hcm hcs htake
  have mixed : Tryd.prog.follows Departure.mixedOrders = true := by kernel_rfl
  go_enter Tryd.func64, Tryd.ntmps64
  go_wp2
  go_region_o
  all_goals (go_wp2; go_ret; exact ⟨rfl, Lib.below_freeze (Below.drew (Below.refl B w)) (p := ⟨g, 0, none⟩) hbg _⟩)
end Go.Proofs.YtabmdbhbbmnkdaaDoor
