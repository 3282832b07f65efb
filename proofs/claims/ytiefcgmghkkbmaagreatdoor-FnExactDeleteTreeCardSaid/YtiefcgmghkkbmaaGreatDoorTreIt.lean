/-
  Trees: the program's walk: its items.
-/
import Derived.Test.YtiefcgmghkkbmaaGreatDoorTreF
namespace Go.Proofs.YtiefcgmghkkbmaaGreatDoor
open Go Go.ChangeShapes Go.WideShapes Go.ChangeAt Go.RowKit lib
set_option linter.unusedVariables false
set_option linter.unusedSimpArgs false
set_option maxRecDepth 100000
theorem encTI_len (L : List TIt) : (L.flatMap encTI).length = L.length * 8 := by
  induction L with
  | nil => rfl
  | cons x r ih => rw [List.flatMap_cons, List.length_append, ih, List.length_cons]; simp [encTI]; omega
theorem encTI_last (L : List TIt) (x : TIt) (D : ByteArray) (wl : Bool) : (((L ++ [x]).flatMap encTI).set (L.length * 8 + 6) (.string D)).set (L.length * 8 + 7) (.bool wl) = (L ++ [{ x with dat := D, whl := wl }]).flatMap encTI := by
  have hl := encTI_len L
  rw [List.flatMap_append, List.flatMap_append, List.set_append_right _ _ (by omega), List.set_append_right _ _ (by omega), hl]
  simp [encTI]
section
variable {w w' : World} {q gp gr n B B0 m : Nat} {bl cp : Nat → Nat} {u : Nat → Nat → UInt8} {S : TS}
/-- an item more -/
theorem WkW.addI (h : WkW w q gp gr n B B0 m bl cp u S) {A2 : Option Addr} {c2 gg cap : Nat} {x : TIt} {w3 : World} (h1 : w.cell? ⟨q, 3, none⟩ = some (.slice A2 S.it.length c2)) (hg : w.grownBy w3 (Value.slice A2 S.it.length c2).ownBlock)
    (ho : w3.ownsRow B 76 8 (.slice (some ⟨gg, 0, none⟩) (S.it.length + 1) cap) (S.it.length + 1) (S.it.flatMap encTI ++ encTI x)) :
    WkW (w3.setCell ⟨q, 3, none⟩ (.slice (some ⟨gg, 0, none⟩) (S.it.length + 1) cap)) q gp gr n B B0 m bl cp u { S with it := S.it ++ [x] } ∧ Kp wkT m B w (w3.setCell ⟨q, 3, none⟩ (.slice (some ⟨gg, 0, none⟩) (S.it.length + 1) cap)) := by
  obtain ⟨⟨A1, c1, A2', c2', r1, r2, r3⟩, ⟨cnt, h4, h5⟩, h6, h7, h8⟩ := h
  have e := r1.cell 3
  rw [h1] at e
  simp only [List.getElem?_toArray, List.getElem?_cons_succ, List.getElem?_cons_zero, Option.some.injEq, Value.slice.injEq] at e
  obtain ⟨rfl, _, rfl⟩ := e
  have hk := kpGrown r3 hg (m + 1)
  have s1 := r1.kp hk (by decide)
  have s2 := ownKp r2 hk (by decide)
  have s5 := h5.kp2 hk (by omega)
  have s6 := h6.kp hk (by decide) (by decide) (by decide)
  have hk2 := kpSet (i := 3) s1 (m + 1) (.slice (some ⟨gg, 0, none⟩) (S.it.length + 1) cap)
  have hl : (S.it ++ [x]).length = S.it.length + 1 := by simp
  have hf : (S.it ++ [x]).flatMap encTI = S.it.flatMap encTI ++ encTI x := by simp
  refine ⟨⟨⟨A1, c1, some ⟨gg, 0, none⟩, cap, ?_, own_farT s2 s1 (by decide) _, ?_⟩, ⟨cnt, h4, s5.kp2 hk2 (by omega)⟩, s6.kp hk2 (by decide) (by decide) (by decide), h7, h8⟩, ?_⟩
  · show Row _ _ _ #[_, _, _, .slice _ (S.it ++ [x]).length _]
    rw [hl]; exact s1.set 3 _
  · show World.ownsRow _ _ _ _ (.slice _ (S.it ++ [x]).length _) (S.it ++ [x]).length ((S.it ++ [x]).flatMap encTI)
    rw [hl, hf]; exact own_farT ho s1 (by decide) _
  · exact (Kp.own r3 (by decide) hg).trans (Kp.set s1 (by decide) h7 _)
theorem WkW.kp0 {mX : Nat} (h : WkW w q gp gr n B B0 m bl cp u S) (hk : Kp [] mX 0 w w') (hne : m ≠ mX) : WkW w' q gp gr n B B0 m bl cp u S := by
  obtain ⟨⟨A1, c1, A2, c2, r1, r2, r3⟩, ⟨cnt, h4, h5⟩, h6, h7, h8⟩ := h
  exact ⟨⟨A1, c1, A2, c2, r1.kp hk (by simp), ownKp r2 hk (by simp), ownKp r3 hk (by simp)⟩, ⟨cnt, h4, h5.kp2 hk hne⟩, h6.kp hk (by simp) (by simp) (by simp), h7, h8⟩
/-- the last item gets its data -/
theorem WkW.setD (h : WkW w q gp gr n B B0 m bl cp u S) {L : List TIt} {x : TIt} (hS : S.it = L ++ [x]) {A2 : Option Addr} {l2 c2 : Nat} (h1 : w.cell? ⟨q, 3, none⟩ = some (.slice A2 l2 c2)) (D : ByteArray) (wl : Bool) :
    ∃ g2, A2 = some ⟨g2, 0, none⟩ ∧ (∃ v, w.cell? ⟨g2, L.length * 8 + 6, none⟩ = some v) ∧ (∃ v, w.cell? ⟨g2, L.length * 8 + 7, none⟩ = some v) ∧ (∀ i, w.frozen? ⟨g2, i, none⟩ = false) ∧
      WkW ((w.setCell ⟨g2, L.length * 8 + 6, none⟩ (.string D)).setCell ⟨g2, L.length * 8 + 7, none⟩ (.bool wl)) q gp gr n B B0 m bl cp u { S with it := L ++ [{ x with dat := D, whl := wl }] } ∧ Kp wkT m B w ((w.setCell ⟨g2, L.length * 8 + 6, none⟩ (.string D)).setCell ⟨g2, L.length * 8 + 7, none⟩ (.bool wl)) := by
  obtain ⟨⟨A1, c1, A2', c2', r1, r2, r3⟩, ⟨cnt, h4, h5⟩, h6, h7, h8⟩ := h
  have e := r1.cell 3
  rw [h1] at e
  simp only [List.getElem?_toArray, List.getElem?_cons_succ, List.getElem?_cons_zero, Option.some.injEq, Value.slice.injEq] at e
  obtain ⟨rfl, _, rfl⟩ := e
  have hlen : S.it.length = L.length + 1 := by rw [hS]; simp
  have hB := r3.lt
  obtain ⟨g2, cap, e2, hg2, _⟩ := r3.form (by omega)
  injection e2 with e2 _ _
  subst e2
  obtain ⟨g3, cs, e3, hgl, hrr, hcs, hcc⟩ := own_row r3 (by omega)
  injection e3 with e3
  injection e3 with e3 _
  subst e3
  have q6 := own_cell r3 (i := L.length * 8 + 6) (by omega)
  have q7 := own_cell r3 (i := L.length * 8 + 7) (by omega)
  have hk6 := kpSet (i := L.length * 8 + 6) hrr (m + 1) (.string D)
  have hr6 := hrr.set (L.length * 8 + 6) (.string D)
  have hk7 := kpSet (i := L.length * 8 + 7) hr6 (m + 1) (.bool wl)
  have hk := hk6.trans hk7
  have hl2 : (L ++ [{ x with dat := D, whl := wl }]).length = S.it.length := by rw [hlen]; simp
  have hW : WkW ((w.setCell ⟨g2, L.length * 8 + 6, none⟩ (.string D)).setCell ⟨g2, L.length * 8 + 7, none⟩ (.bool wl)) q gp gr n B B0 m bl cp u { S with it := L ++ [{ x with dat := D, whl := wl }] } := by
    refine { rows := ⟨A1, c1, some ⟨g2, 0, none⟩, c2, ?_, ownKp r2 hk (by decide), ?_⟩, seen := ⟨cnt, h4, h5.kp2 hk (by omega)⟩, tree := h6.kp hk (by decide) (by decide) (by decide), qB := h7, mB := h8 }
    · show Row _ _ _ #[_, _, _, .slice _ (L ++ [{ x with dat := D, whl := wl }]).length _]
      rw [hl2]; exact r1.kp hk (by decide)
    · show World.ownsRow _ _ _ _ (.slice _ (L ++ [{ x with dat := D, whl := wl }]).length _) (L ++ [{ x with dat := D, whl := wl }]).length ((L ++ [{ x with dat := D, whl := wl }]).flatMap encTI)
      rw [hl2, ← encTI_last]
      rw [hS] at r3 ⊢
      exact own_set (own_set r3 (i := L.length * 8 + 6) (by simp; omega) _) (by simp; omega) _
  refine ⟨g2, rfl, q6.1, q7.1, fun i => ?_, hW, (Kp.set hrr (by decide) hgl _).trans (Kp.set hr6 (by decide) hgl _)⟩
  rcases r3.2 with ⟨hn, _⟩ | ⟨g, cap, cur, hv, _, hg, _⟩
  · cases hn
  · injection hv with hv _ _
    injection hv with hv
    injection hv with hv _
    subst hv
    exact Rw.frozen hg i
end
theorem newsT8 (w : World) (e : Nat) (a b c d x y z v : Value) : ∀ (j : Nat) (q : Value), [a, b, c, d, x, y, z, v][j]? = some q → ((w.alloc (.cells #[a, b, c, d, x, y, z, v] e)).drew).cell? ((⟨w.heap.size, 0, none⟩ : Addr).add j) = some q := by
  intro j q hj
  have hc := Rw.new w e #[a, b, c, d, x, y, z, v]
  match j, hj with
  | 0, hj => simp at hj; subst hj; exact hc.drew.cell 0
  | 1, hj => simp at hj; subst hj; exact hc.drew.cell 1
  | 2, hj => simp at hj; subst hj; exact hc.drew.cell 2
  | 3, hj => simp at hj; subst hj; exact hc.drew.cell 3
  | 4, hj => simp at hj; subst hj; exact hc.drew.cell 4
  | 5, hj => simp at hj; subst hj; exact hc.drew.cell 5
  | 6, hj => simp at hj; subst hj; exact hc.drew.cell 6
  | 7, hj => simp at hj; subst hj; exact hc.drew.cell 7
theorem infoTI : (Tryz.prog.info? 76).map (fun i => (i.zero, i.size, i.bytes)) = some (some (.agg #[.int .i64 0, .int .i64 0, .string .empty, .string .empty, .bool false, .bool false, .string .empty, .bool false]), 8, 80) := by kernel_rfl
end Go.Proofs.YtiefcgmghkkbmaaGreatDoor
