/-
  Trees: the program's walk: what it holds in memory; a problem noted; a block entered.
-/
import Derived.Test.YtiefcgmghkkbmaaGreatDoorTreB5
import Derived.Test.YtiefcgmghkkbmaaGreatDoorTreK
import Derived.Test.YtiefcgmghkkbmaaGreatDoorTreM
namespace Go.Proofs.YtiefcgmghkkbmaaGreatDoor
open Go Go.ChangeShapes Go.WideShapes Go.ChangeAt Go.RowKit lib
set_option linter.unusedVariables false
set_option linter.unusedSimpArgs false
set_option maxRecDepth 100000
def encTP (p : Nat × Nat) : List Value := [.int .i64 (p.1 : Int), .int .i64 (p.2 : Int)]
def encTI (x : TIt) : List Value := [.int .i64 (x.dir : Int), .int .i64 (x.blk : Int), .string x.nm, .string x.path, .bool x.fol, .bool x.dbl, .string x.dat, .bool x.whl]
theorem own_farT {w : World} {B e e' k n g i : Nat} {v : Value} {xs : List Value} {cs : Array Value} (h : w.ownsRow B e k v n xs) (hr : Row w g e' cs) (hne : e ≠ e') (x : Value) : (w.setCell ⟨g, i, none⟩ x).ownsRow B e k v n xs := by
  refine h.kept (only_setCell (g := g) (only_refl _ _) (.inl rfl) x) ?_
  cases hv : v.ownBlock with
  | none => exact .inl rfl
  | some j => exact .inr (fun e2 => own_ne h hr hne (by rw [hv, e2]))
/-- what is left when one row of type e grows -/
theorem kpGrown {w w' : World} {B e k n : Nat} {v : Value} {xs : List Value} (h : w.ownsRow B e k v n xs) (hg : w.grownBy w' v.ownBlock) (m : Nat) : Kp [e] m 0 w w' :=
  ⟨hg.os, hg.tape, hg.output, hg.size, fun i hi hq => hg.block i hi (fun e2 => by
    rcases hq with h1 | h1
    · omega
    · exact (notOk_own (T := [e]) (m := m) h (by simp) i e2.symm).2 h1)⟩
theorem kpSet {w : World} {g e i : Nat} {cs : Array Value} (h : Row w g e cs) (m : Nat) (x : Value) : Kp [e] m 0 w (w.setCell ⟨g, i, none⟩ x) := Kp.set h (by simp) (Nat.zero_le _) x
theorem kpMap {w w' : World} {m : Nat} {P : Program} {k e cnt : Nat} {Q : Nat → Bool} (h : TSet P k e w m cnt Q) (hg : w.grownBy w' (some m)) : Kp [] m 0 w w' := by
  obtain ⟨D, ho, _⟩ := h
  exact Kp.map ho (Nat.zero_le _) hg
/-- the types of a walk's own rows -/
def wkT : List Nat := [72, 139, 76]
def wkP : List Nat := [72, 139]
theorem infoTP : (Tryz.prog.info? 139).map (fun i => (i.zero, i.size, i.bytes)) = some (some (.agg #[.int .i64 0, .int .i64 0]), 2, 16) := by kernel_rfl
/-- the walk in block q: the disk gp, the visited blocks in map m, problems and items as S says -/
structure WkW (w : World) (q gp gr n B B0 m : Nat) (bl cp : Nat → Nat) (u : Nat → Nat → UInt8) (S : TS) : Prop where
  rows : ∃ A1 c1 A2 c2, Row w q 72 #[.pointer (some ⟨gp, 0, none⟩), .map (some m), .slice A1 S.pr.length c1, .slice A2 S.it.length c2] ∧ w.ownsRow B 139 2 (.slice A1 S.pr.length c1) S.pr.length (S.pr.flatMap encTP) ∧ w.ownsRow B 76 8 (.slice A2 S.it.length c2) S.it.length (S.it.flatMap encTI)
  seen : ∃ cnt, cnt + S.uns n ≤ 1000 ∧ TSet Tryz.prog 2 4 w m cnt S.sn
  tree : TreD w gp gr n B0 bl cp u
  qB : B ≤ q
  mB : B ≤ m
section
variable {w w' : World} {q gp gr n B B0 m : Nat} {bl cp : Nat → Nat} {u : Nat → Nat → UInt8} {S : TS}
theorem TreD.kp {T : List Nat} {m' B' : Nat} (h : TreD w gp gr n B0 bl cp u) (hk : Kp T m' B' w w') (h1 : 48 ∉ T) (h2 : 45 ∉ T) (h3 : 5 ∉ T) : TreD w' gp gr n B0 bl cp u := by
  obtain ⟨⟨⟨cap, a1⟩, ⟨cs, a2, a3, a4⟩, a5, a6, a7, a8⟩, hc⟩ := h
  exact ⟨⟨⟨cap, a1.kp hk h1⟩, ⟨cs, a2.kp hk h2, a3, a4⟩, fun i hi => ⟨(a5 i hi).1.kp hk h3, (a5 i hi).2⟩, a6, a7, a8⟩, hc⟩
theorem WkW.below (h : WkW w q gp gr n B B0 m bl cp u S) (hb : Below w.heap.size w w') : WkW w' q gp gr n B B0 m bl cp u S := by
  obtain ⟨⟨A1, c1, A2, c2, h1, h2, h3⟩, ⟨cnt, h4, h5⟩, h6, h7, h8⟩ := h
  exact ⟨⟨A1, c1, A2, c2, h1.below hb h1.lt, own_below h2 hb, own_below h3 hb⟩, ⟨cnt, h4, h5.below hb⟩, h6.below hb, h7, h8⟩
theorem WkW.drewN (h : WkW w q gp gr n B B0 m bl cp u S) (k : Nat) : WkW (w.drewN k) q gp gr n B B0 m bl cp u S := h.below ((Below.refl _ _).drewN k)
theorem WkW.ptr (h : WkW w q gp gr n B B0 m bl cp u S) : w.cell? ⟨q, 0, none⟩ = some (.pointer (some ⟨gp, 0, none⟩)) ∧ w.cell? ⟨q, 1, none⟩ = some (.map (some m)) := by
  obtain ⟨⟨A1, c1, A2, c2, h1, _⟩, _⟩ := h
  exact ⟨h1.cell 0, h1.cell 1⟩
/-- a problem more -/
theorem WkW.addP (h : WkW w q gp gr n B B0 m bl cp u S) {A1 : Option Addr} {c1 gg cap k b : Nat} {w3 : World} (h1 : w.cell? ⟨q, 2, none⟩ = some (.slice A1 S.pr.length c1)) (hg : w.grownBy w3 (Value.slice A1 S.pr.length c1).ownBlock)
    (ho : w3.ownsRow B 139 2 (.slice (some ⟨gg, 0, none⟩) (S.pr.length + 1) cap) (S.pr.length + 1) (S.pr.flatMap encTP ++ encTP (k, b))) :
    WkW (w3.setCell ⟨q, 2, none⟩ (.slice (some ⟨gg, 0, none⟩) (S.pr.length + 1) cap)) q gp gr n B B0 m bl cp u (S.prob k b) ∧ Kp wkT m B w (w3.setCell ⟨q, 2, none⟩ (.slice (some ⟨gg, 0, none⟩) (S.pr.length + 1) cap)) ∧ (w3.setCell ⟨q, 2, none⟩ (.slice (some ⟨gg, 0, none⟩) (S.pr.length + 1) cap)).cell? ⟨q, 3, none⟩ = w.cell? ⟨q, 3, none⟩ ∧ Kp wkP m B w (w3.setCell ⟨q, 2, none⟩ (.slice (some ⟨gg, 0, none⟩) (S.pr.length + 1) cap)) := by
  obtain ⟨⟨A1', c1', A2, c2, r1, r2, r3⟩, ⟨cnt, h4, h5⟩, h6, h7, h8⟩ := h
  have e := r1.cell 2
  rw [h1] at e
  simp only [List.getElem?_toArray, List.getElem?_cons_succ, List.getElem?_cons_zero, Option.some.injEq, Value.slice.injEq] at e
  obtain ⟨rfl, _, rfl⟩ := e
  have hk := kpGrown r2 hg (m + 1)
  have s1 := r1.kp hk (by decide)
  have s3 := ownKp r3 hk (by decide)
  have s5 := h5.kp2 hk (by omega)
  have s6 := h6.kp hk (by decide) (by decide) (by decide)
  have hk2 := kpSet (i := 2) s1 (m + 1) (.slice (some ⟨gg, 0, none⟩) (S.pr.length + 1) cap)
  have hl : (S.prob k b).pr.length = S.pr.length + 1 := by
    show (S.pr ++ [(k, b)]).length = _
    simp
  have hf : (S.prob k b).pr.flatMap encTP = S.pr.flatMap encTP ++ encTP (k, b) := by
    show (S.pr ++ [(k, b)]).flatMap encTP = _
    simp
  refine ⟨⟨⟨some ⟨gg, 0, none⟩, cap, A2, c2, ?_, ?_, own_farT s3 s1 (by decide) _⟩, ⟨cnt, h4, s5.kp2 hk2 (by omega)⟩, s6.kp hk2 (by decide) (by decide) (by decide), h7, h8⟩, ?_, ?_⟩
  · rw [hl]; exact s1.set 2 _
  · rw [hl, hf]; exact own_farT ho s1 (by decide) _
  · exact (Kp.own r2 (by decide) hg).trans (Kp.set s1 (by decide) h7 _)
  · exact ⟨((s1.set 2 _).cell 3).trans (r1.cell 3).symm, (Kp.own r2 (by decide) hg).trans (Kp.set s1 (by decide) h7 _)⟩
/-- a block visited -/
theorem WkW.visit (h : WkW w q gp gr n B B0 m bl cp u S) {b cnt : Nat} (hb : b < n) (hs : S.sn b = false) (hc : cnt + S.uns n ≤ 1000) (h5 : TSet Tryz.prog 2 4 w m cnt S.sn) (hg : w.grownBy w' (some m)) (h5' : TSet Tryz.prog 2 4 w' m (cnt + 1) (fun y => if y = b then true else S.sn y)) :
    WkW w' q gp gr n B B0 m bl cp u (S.see b) ∧ Kp wkT m B w w' := by
  obtain ⟨⟨A1, c1, A2, c2, r1, r2, r3⟩, _, h6, h7, h8⟩ := h
  have hk := kpMap h5 hg
  have hu := uns_see hb hs
  refine ⟨⟨⟨A1, c1, A2, c2, r1.kp hk (by simp), ownKp r2 hk (by simp), ownKp r3 hk (by simp)⟩, ⟨cnt + 1, by omega, h5'⟩, h6.kp hk (by simp) (by simp) (by simp), h7, h8⟩, ?_⟩
  obtain ⟨D, ho, _⟩ := h5
  exact Kp.map ho h8 hg
end
theorem newsT2 (w : World) (e : Nat) (x y : Value) : ∀ (j : Nat) (q : Value), [x, y][j]? = some q → (w.alloc (.cells #[x, y] e)).cell? ((⟨w.heap.size, 0, none⟩ : Addr).add j) = some q := by
  intro j q hj
  have hc := Rw.new w e #[x, y]
  match j, hj with
  | 0, hj => simp at hj; subst hj; exact hc.cell 0
  | 1, hj => simp at hj; subst hj; exact hc.cell 1
theorem problem_any {w : World} {q gp gr n B B0 m k b : Nat} {bl cp : Nat → Nat} {u : Nat → Nat → UInt8} {S : TS} (h : WkW w q gp gr n B B0 m bl cp u S) (hB : B ≤ w.heap.size) (hl : S.pr.length ≤ 100000) (hk : k ≤ 1000) (hb : b ≤ 1000) :
    Calls Tryz.prog 91 #[.pointer (some ⟨q, 0, none⟩), .int .i64 k, .int .i64 b] w fun e w' => e = .returned (.tuple #[]) ∧ WkW w' q gp gr n B B0 m bl cp u (S.prob k b) ∧ Kp wkT m B w w' ∧ w'.cell? ⟨q, 3, none⟩ = w.cell? ⟨q, 3, none⟩ ∧ Kp wkP m B w w' := by
  obtain ⟨i0, hi0, hi1, hi2, hi3⟩ := info_parts infoTP
  obtain ⟨A1, c1, A2, c2, r1, r2, r3⟩ := h.rows
  have k2 : w.cell? ⟨q, 2, none⟩ = some (.slice A1 S.pr.length c1) := r1.cell 2
  have hb1 := (Below.refl w.heap.size w).alloc (Nat.le_refl _) (.cells #[.int .i64 (k : Int), .int .i64 (b : Int)] 139)
  have r1' := Row.below r1 hb1 r1.lt
  have HR := Lib.hid r1'
  have HO := Lib.hid (own_below r2 hb1)
  have HW := Lib.hid (h.below hb1)
  have hne : some q ≠ (Value.slice A1 S.pr.length c1).ownBlock := own_ne r2 r1 (by decide)
  have HNE := Lib.hid hne
  have HB1 := Lib.hid hb1
  obtain ⟨L, hL⟩ : ∃ L, S.pr.length = L := ⟨_, rfl⟩
  have hKK : ∀ W (g2 c' : Nat) w3, W = w.alloc (.cells #[.int .i64 (k : Int), .int .i64 (b : Int)] 139) → w3.ownsRow B 139 2 (.slice (some ⟨g2, 0, none⟩) (L + 1) c') (L + 1) (S.pr.flatMap encTP ++ [.int .i64 (k : Int), .int .i64 (b : Int)]) → W.grownBy w3 (Value.slice A1 L c1).ownBlock → WkW (w3.setCell ⟨q, 2, none⟩ (.slice (some ⟨g2, 0, none⟩) (L + 1) c')) q gp gr n B B0 m bl cp u (S.prob k b) ∧ Kp wkT m B w (w3.setCell ⟨q, 2, none⟩ (.slice (some ⟨g2, 0, none⟩) (L + 1) c')) ∧ (w3.setCell ⟨q, 2, none⟩ (.slice (some ⟨g2, 0, none⟩) (L + 1) c')).cell? ⟨q, 3, none⟩ = w.cell? ⟨q, 3, none⟩ ∧ Kp wkP m B w (w3.setCell ⟨q, 2, none⟩ (.slice (some ⟨g2, 0, none⟩) (L + 1) c')) := by
    intro W g2 c' w3 hW ho hg
    subst hW
    subst hL
    obtain ⟨a1, a2, a3, a4⟩ := (h.below hb1).addP (k := k) (b := b) ((hb1.cell (p := ⟨q, 2, none⟩) r1.lt).trans k2) hg ho
    exact ⟨a1, (Kp.ofBelow hb1).trans a2, a3.trans (hb1.cell (p := ⟨q, 3, none⟩) r1.lt), (Kp.ofBelow hb1).trans a4⟩
  have HKK := Lib.hid hKK
  rw [hL] at k2 HO hl HNE HR
  clear h r1 r2 r3 hb1 hne r1' hKK HW hL
  go_enter Tryz.func91, Tryz.ntmps91
  go_wp2_with (at_builtin; refine wpList_append_lies _ rfl (.tmp 10) (.tmp 14) _ rfl B 139 i0 _ 2 16 Tryz.underlying57 hi0 hi1 hi2 hi3 rfl (by omega) (.slice A1 L c1) L _ rfl HO.out ⟨w.heap.size, 0, none⟩ 1 1 [.int .i64 (k : Int), .int .i64 (b : Int)] rfl rfl (newsT2 _ _ _ _) (by simp [Value.oneCell']) (by omega) (by simp only [maxLen]; omega) (by omega) (by simp; omega) (w.heap.size + 1) (by simp) ?_; intro gg cap w3 ho3 hgrow hat hlt3; have hr3 := Row.grown HR.out hgrow HNE.out; have hf3 := hr3.frozen (i := 2) (by simp); have hc3 := hr3.cell 2)
  go_end0
  exact ⟨rfl, HKK.out _ _ _ _ rfl ho3 hgrow⟩
end Go.Proofs.YtiefcgmghkkbmaaGreatDoor
