/-
  Trees: the builder of a file's data beside a walk.
-/
import Derived.Test.YtiefcgmghkkbmaaGreatDoorTreI2
import Derived.Test.YtiefcgmghkkbmaaGreatDoorXrdW
namespace Go.Proofs.YtiefcgmghkkbmaaGreatDoor
open Go Go.ChangeShapes Go.WideShapes Go.ChangeAt Go.RowKit lib
set_option linter.unusedVariables false
set_option linter.unusedSimpArgs false
set_option maxRecDepth 100000
theorem Kp.thenBelow {T : List Nat} {m B Bb : Nat} {w w1 w2 : World} (h : Kp T m B w w1) (hb : Below Bb w1 w2) (hB : w.heap.size ≤ Bb) : Kp T m B w w2 :=
  ⟨hb.os.trans h.os, hb.tape.trans h.tape, hb.output.trans h.output, Nat.le_trans h.size hb.size, fun i hi hq => (hb.block i (by omega)).trans (h.block i hi hq)⟩
theorem notOk_heap {T : List Nat} {m g e : Nat} {cs : Array Value} {w : World} (h : w.heap[g]? = some (.cells cs e (0, 0))) (he : e ∈ T) : ¬ kpOk T m w.heap[g]? g := notOk_row (Row.of h) he
theorem cellsSnoc (out : ByteArray) (k : Nat) (v : Nat → UInt8) : Lib.byteCells out.data.toList ++ ((List.range k).map fun i => Value.int .u8 ((v i).toNat : Int)) = Lib.byteCells (out ++ bstr k v).data.toList := by
  have e : (out ++ bstr k v).data.toList = out.data.toList ++ (List.range k).map v := by
    rw [ByteArray.data_append, Array.toList_append]
    rfl
  rw [e]
  unfold Lib.byteCells
  rw [List.map_append, List.map_map]
  rfl
theorem cellsLen (l : List UInt8) : (Lib.byteCells l).length = l.length := by unfold Lib.byteCells; simp
set_option maxHeartbeats 2000000 in
theorem writeKp {B b m c BS : Nat} {bs : List Value} {A : Option Addr} {v8 : Nat → UInt8} {w : World} (h : Lib.IsBuilder 113 5 B b bs w) (hlen : bs.length + m ≤ 140737488355328) (hBw : B ≤ w.heap.size) (hBS : BS ≤ B) (hsl : Sl w BS A m (fun i => .int .u8 ((v8 i).toNat : Int))) :
    Calls Tryz.prog 73 #[.pointer (some ⟨b, 0, none⟩), .slice A m c] w fun e w' => e = .returned (.tuple #[.int .i64 m, .nilIface]) ∧ Lib.IsBuilder 113 5 B b (bs ++ (List.range m).map fun i => Value.int .u8 ((v8 i).toNat : Int)) w' ∧ Below B w w' ∧ ∀ mX, Kp [113, 5] mX 0 w w' := by
  obtain ⟨i0, hi, hz0, hz1, hz2⟩ := info_parts (show (Tryz.prog.info? 5).map (fun i => (i.zero, i.size, i.bytes)) = some (some (.int .u8 0), 1, 1) by kernel_rfl)
  have HSL := Lib.hid hsl
  have HH := Lib.hid h
  clear hsl
  go_enter Tryz.func73, Tryz.ntmps73
  go_upto_region 2 with (go_at_call 107; refine (copyCheck_keep HH.out).mono ?_; rintro e w1 ⟨rfl, h1, hb1, hk1⟩; obtain ⟨hB, v, hbk, hown, hne⟩ := h1; have c0 : w1.cell? ⟨b, 0, none⟩ = some (.pointer (some ⟨b, 0, none⟩)) := (by rw [Lib.cell_of_heap hbk]; rfl); have c1 : w1.cell? ⟨b, 1, none⟩ = some v := (by rw [Lib.cell_of_heap hbk]; rfl))
  have hzb := hb1.size
  have hl1 : b < w1.heap.size := by
    rcases Nat.lt_or_ge b w1.heap.size with h' | h'
    · exact h'
    · simp [Array.getElem?_eq_none h'] at hbk
  have hsl1 : Sl w1 BS A m (fun i => .int .u8 ((v8 i).toNat : Int)) := HSL.out.keep fun b' o hb' => hb1.cell (p := ⟨b', o, none⟩) (Nat.lt_of_lt_of_le hb' hBS)
  have HS1 := Lib.hid hsl1
  clear hsl1
  go_wp2_with (at_builtin; refine wpList_appR rfl (.tmp 12) (.tmp 13) 45 rfl B 5 i0 (.int .u8 0) 1 1 Tryz.underlying45 hi hz0 hz1 hz2 rfl (by omega) _ _ _ (by rfl) hown A m c BS (fun i => .int .u8 ((v8 i).toNat : Int)) (by rfl) (by rw [Nat.mul_one]; exact HS1.out) (fun _ => rfl) (by simp only [maxLen]; omega) (by omega) (by omega) ?_; intro A' c' w2 hown' hgrow hx; have hlt : b < w1.heap.size := hl1; have hb2 : w2.heap[b]? = some (.cells #[.pointer (some ⟨b, 0, none⟩), v] 113 (0, 0)) := (by rw [hgrow.block b hlt (fun e => hne e.symm)]; exact hbk); have d0 : w2.cell? ⟨b, 0, none⟩ = some (.pointer (some ⟨b, 0, none⟩)) := (by rw [Lib.cell_of_heap hb2]; rfl); have d1 : w2.cell? ⟨b, 1, none⟩ = some v := (by rw [Lib.cell_of_heap hb2]; rfl); have f1 : w2.frozen? ⟨b, 1, none⟩ = false := (Rw.frozen (show Rw w2 b 113 _ from hb2) 1))
  go_ret2
  rw [Nat.mul_one] at hown'
  refine ⟨rfl, .inr ?_, ?_, fun mX => ?_⟩
  · exact Lib.BuilderAt.put (T := 113) (e := 5) hB hb2 (bs' := bs ++ (List.range m).map fun i => Value.int .u8 ((v8 i).toNat : Int)) (by simpa using hown') (by decide)
  · exact (hb1.grown hgrow (by have := hb1.size; omega) (fun k hk => (hown.lt k hk).1)).setCell (p := ⟨b, 1, none⟩) hB _
  · have hbw : ∃ p v, w.heap[b]? = some (.cells #[p, v] 113 (0, 0)) := by
      rcases HH.out with h | h
      · obtain ⟨_, v, h2, _⟩ := h; exact ⟨_, v, h2⟩
      · obtain ⟨_, v, h2, _⟩ := h; exact ⟨_, v, h2⟩
    obtain ⟨p0, v0, hb0⟩ := hbw
    have k1 : Kp [113, 5] mX 0 w w1 := ⟨hb1.os, hb1.tape, hb1.output, hb1.size, fun i hi hq => hk1 i (fun e => by
      subst e
      rcases hq with hq | hq
      · omega
      · exact notOk_heap hb0 (by simp) hq)⟩
    have k2 : Kp [113, 5] mX 0 w1 w2 := ⟨hgrow.os, hgrow.tape, hgrow.output, hgrow.size, fun i hi hq => hgrow.block i hi (fun e => by
      rcases hq with hq | hq
      · omega
      · exact (notOk_own (T := [113, 5]) (m := mX) hown (by simp) i e.symm).2 hq)⟩
    exact (k1.trans k2).trans (Kp.set (Row.of hb2) (by simp) (Nat.zero_le _) _)
theorem WkW.write {w w' : World} {q gp gr n B B0 m Bb : Nat} {bl cp : Nat → Nat} {u : Nat → Nat → UInt8} {S : TS} (h : WkW w q gp gr n B B0 m bl cp u S) (hb : Below Bb w w') (hk : Kp [113, 5] (m + 1) 0 w w') (hbl : ∀ j, j < n → bl j < Bb) : WkW w' q gp gr n B B0 m bl cp u S := by
  obtain ⟨⟨A1, c1, A2, c2, r1, r2, r3⟩, ⟨cnt, h4, h5⟩, h6, h7, h8⟩ := h
  obtain ⟨⟨⟨cap, a1⟩, ⟨cs, a2, a3, a4⟩, a5, a6, a7, a8⟩, hc⟩ := h6
  exact ⟨⟨A1, c1, A2, c2, r1.kp hk (by decide), ownKp r2 hk (by decide), ownKp r3 hk (by decide)⟩, ⟨cnt, h4, h5.kp2 hk (by omega)⟩, ⟨⟨⟨cap, a1.kp hk (by decide)⟩, ⟨cs, a2.kp hk (by decide), a3, a4⟩, fun i hi => ⟨(a5 i hi).1.below hb (hbl i hi), (a5 i hi).2⟩, a6, a7, a8⟩, hc⟩, h7, h8⟩
/-- the walk's own rows lie below a block -/
def RowsLt (w : World) (q Bb : Nat) : Prop := q < Bb ∧ ∀ i v j, w.cell? ⟨q, i, none⟩ = some v → v.ownBlock = some j → j < Bb
theorem RowsLt.of {w : World} {q gp gr n B B0 m : Nat} {bl cp : Nat → Nat} {u : Nat → Nat → UInt8} {S : TS} (h : WkW w q gp gr n B B0 m bl cp u S) : RowsLt w q w.heap.size := by
  obtain ⟨⟨A1, c1, A2, c2, r1, r2, r3⟩, _⟩ := h
  refine ⟨r1.lt, fun i v j hv hj => ?_⟩
  rw [r1.cell i] at hv
  match i, hv with
  | 0, hv => simp at hv; subst hv; cases hj
  | 1, hv => simp at hv; subst hv; cases hj
  | 2, hv => simp at hv; subst hv; exact (r2.lt j hj).2
  | 3, hv => simp at hv; subst hv; exact (r3.lt j hj).2
  | i + 4, hv => simp at hv
theorem RowsLt.same {w w' : World} {q Bb : Nat} (h : RowsLt w q Bb) (he : w'.heap[q]? = w.heap[q]?) : RowsLt w' q Bb := ⟨h.1, fun i v j hv hj => h.2 i v j (by rw [← World.cell?_of_block (a := ⟨q, i, none⟩) he]; exact hv) hj⟩
theorem RowsLt.more {w : World} {q Bb Bc : Nat} (h : RowsLt w q Bb) (hb : Bb ≤ Bc) : RowsLt w q Bc := ⟨by have := h.1; omega, fun i v j hv hj => by have := h.2 i v j hv hj; omega⟩
theorem ownLow {w w' : World} {B Bb e k n : Nat} {v : Value} {xs : List Value} (h : w.ownsRow B e k v n xs) (hb : Below Bb w w') (hl : ∀ j, v.ownBlock = some j → j < Bb) : w'.ownsRow B e k v n xs := by
  refine ⟨h.1, ?_⟩
  rcases h.2 with hn | ⟨g, cap, cur, rfl, hB, hg, rest⟩
  · exact .inl hn
  · exact .inr ⟨g, cap, cur, rfl, hB, (hb.block g (hl g rfl)).trans hg, rest⟩
theorem TSet.low {P : Program} {k e : TypeId} {w w' : World} {m cnt Bb : Nat} {Q : Nat → Bool} (h : TSet P k e w m cnt Q) (hb : Below Bb w w') (hm : m < Bb) : TSet P k e w' m cnt Q := by
  obtain ⟨D, ⟨es, cl, h1, h2⟩, hD⟩ := h
  exact ⟨D, ⟨es, cl, (hb.block m hm).trans h1, h2⟩, hD⟩
/-- all that the walk holds lies below a block -/
theorem WkW.low {w w' : World} {q gp gr n B B0 m Bb : Nat} {bl cp : Nat → Nat} {u : Nat → Nat → UInt8} {S : TS} (h : WkW w q gp gr n B B0 m bl cp u S) (hr : RowsLt w q Bb) (hm : m < Bb) (hgp : gp < Bb) (hgr : gr < Bb) (hbl : ∀ j, j < n → bl j < Bb) (hb : Below Bb w w') : WkW w' q gp gr n B B0 m bl cp u S := by
  obtain ⟨⟨A1, c1, A2, c2, r1, r2, r3⟩, ⟨cnt, h4, h5⟩, h6, h7, h8⟩ := h
  obtain ⟨⟨⟨cap, a1⟩, ⟨cs, a2, a3, a4⟩, a5, a6, a7, a8⟩, hc⟩ := h6
  exact ⟨⟨A1, c1, A2, c2, r1.below hb hr.1, ownLow r2 hb (fun j hj => hr.2 2 _ j (r1.cell 2) hj), ownLow r3 hb (fun j hj => hr.2 3 _ j (r1.cell 3) hj)⟩, ⟨cnt, h4, h5.low hb hm⟩, ⟨⟨⟨cap, a1.below hb hgp⟩, ⟨cs, a2.below hb hgr, a3, a4⟩, fun i hi => ⟨(a5 i hi).1.below hb (hbl i hi), (a5 i hi).2⟩, a6, a7, a8⟩, hc⟩, h7, h8⟩
theorem Kp.wide {T T' : List Nat} {m B B' : Nat} {w w' : World} (h : Kp T m B w w') (hT : ∀ e, e ∈ T → e ∈ T') (hB : B' ≤ B) : Kp T' m B' w w' :=
  ⟨h.os, h.tape, h.output, h.size, fun i hi hq => h.block i hi (by
    rcases hq with hq | ⟨cs, e, fr, h1, h2⟩ | hq
    · exact .inl (by omega)
    · exact .inr (.inl ⟨cs, e, fr, h1, fun h3 => h2 (hT e h3)⟩)
    · exact .inr (.inr hq))⟩
/-- writes of builders leave maps as they were, too -/
theorem Kp.anyMap {T : List Nat} {B : Nat} {w w' : World} {m : Nat} (h : ∀ mX, Kp T mX B w w') : Kp T m B w w' := h m
end Go.Proofs.YtiefcgmghkkbmaaGreatDoor
