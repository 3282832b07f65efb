/-
  Trees: the reference's walk: items; an entry asked for.
-/
import Derived.Test.YtiefcgmghkkbmaaGreatDoorTreSf
namespace Go.Proofs.YtiefcgmghkkbmaaGreatDoor
open Go Go.ChangeShapes Go.WideShapes Go.ChangeAt Go.RowKit lib
set_option linter.unusedVariables false
set_option linter.unusedSimpArgs false
set_option maxRecDepth 100000
theorem encSI_len (L : List TIt) : (L.flatMap encSI).length = L.length * 6 := by
  induction L with
  | nil => rfl
  | cons x r ih => rw [List.flatMap_cons, List.length_append, ih, List.length_cons]; simp [encSI]; omega
theorem encSI_get : ∀ (L : List TIt) (i j : Nat) (x : TIt), L[i]? = some x → j < 6 → (L.flatMap encSI)[i * 6 + j]? = (encSI x)[j]?
  | [], i, j, x, h, _ => by simp at h
  | y :: L, 0, j, x, h, hj => by
    simp at h
    subst h
    rw [List.flatMap_cons, List.getElem?_append_left (by simp [encSI]; omega)]
    congr 1; omega
  | y :: L, i + 1, j, x, h, hj => by
    have ih := encSI_get L i j x (by simpa using h) hj
    rw [List.flatMap_cons, List.getElem?_append_right (by simp [encSI]; omega)]
    rw [← ih]
    congr 1
    simp [encSI]
    omega
theorem encSI_set (L : List TIt) (x : TIt) (gd : Bool) (D : ByteArray) (wl : Bool) : (((L.flatMap encSI ++ ([.int .i64 (x.blk : Int), .int .i64 (x.dir : Int), .bool x.fol, .string x.nm, .string x.dat, .bool gd] : List Value)).set (L.length * 6 + 4) (.string D)).set (L.length * 6 + 5) (.bool (!x.dbl && (x.fol || wl)))) = (L ++ [{ x with dat := D, whl := wl }]).flatMap encSI := by
  have hl := encSI_len L
  rw [List.set_append_right _ _ (by omega), List.set_append_right _ _ (by omega), hl, List.flatMap_append]
  simp [encSI]
theorem newsS6 (w : World) (e : Nat) (a b c d x y : Value) : ∀ (j : Nat) (q : Value), [a, b, c, d, x, y][j]? = some q → ((w.alloc (.cells #[a, b, c, d, x, y] e)).drew).cell? ((⟨w.heap.size, 0, none⟩ : Addr).add j) = some q := by
  intro j q hj
  have hc := Rw.new w e #[a, b, c, d, x, y]
  match j, hj with
  | 0, hj => simp at hj; subst hj; exact hc.drew.cell 0
  | 1, hj => simp at hj; subst hj; exact hc.drew.cell 1
  | 2, hj => simp at hj; subst hj; exact hc.drew.cell 2
  | 3, hj => simp at hj; subst hj; exact hc.drew.cell 3
  | 4, hj => simp at hj; subst hj; exact hc.drew.cell 4
  | 5, hj => simp at hj; subst hj; exact hc.drew.cell 5
theorem infoSI : (Tryz.prog.info? 61).map (fun i => (i.zero, i.size, i.bytes)) = some (some (.agg #[.int .i64 0, .int .i64 0, .bool false, .string .empty, .string .empty, .bool false]), 6, 64) := by kernel_rfl
section
variable {w w' : World} {q n B gs cd L : Nat} {Ad : Option Addr} {s : Nat → ByteArray} {S : TS} {xs : List Value}
theorem SkW.same (h : SkW w q n B gs Ad cd s S L xs) {S' : TS} (h1 : S'.sn = S.sn) (h2 : S'.pr = S.pr) : SkW w q n B gs Ad cd s S' L xs := by
  obtain ⟨⟨A1, c1, A2, c2, cs, r1, r2, r3⟩, ⟨bs, h4, h5, h6⟩, h7, h8, h9, h10⟩ := h
  exact ⟨⟨A1, c1, A2, c2, cs, by rw [h2]; exact r1, by rw [h2]; exact r2, r3⟩, ⟨bs, h4, h5, fun i hi => by rw [h1]; exact h6 i hi⟩, h7, h8, h9, h10⟩
theorem SkW.addI (h : SkW w q n B gs Ad cd s S L xs) {A2 : Option Addr} {c2 gg cap : Nat} {ys : List Value} {w3 : World} (h1 : w.cell? ⟨q, 2, none⟩ = some (.slice A2 L c2)) (hg : w.grownBy w3 (Value.slice A2 L c2).ownBlock)
    (ho : w3.ownsRow B 61 6 (.slice (some ⟨gg, 0, none⟩) (L + 1) cap) (L + 1) (xs ++ ys)) :
    SkW (w3.setCell ⟨q, 2, none⟩ (.slice (some ⟨gg, 0, none⟩) (L + 1) cap)) q n B gs Ad cd s S (L + 1) (xs ++ ys) ∧ Kp skT 0 B w (w3.setCell ⟨q, 2, none⟩ (.slice (some ⟨gg, 0, none⟩) (L + 1) cap)) := by
  obtain ⟨⟨A1, c1, A2', c2', cs, r1, r2, r3⟩, ⟨bs, h4, h5, h6⟩, h7, h8, h9, h10⟩ := h
  have e := r1.cell 2
  rw [h1] at e
  simp only [List.getElem?_toArray, List.getElem?_cons_succ, List.getElem?_cons_zero, Option.some.injEq, Value.slice.injEq, true_and] at e
  obtain ⟨rfl, rfl⟩ := e
  have hk := kpGrownS r3 hg
  have s1 := r1.kp hk (by decide)
  have hk2 := kpSetS (i := 2) s1 (.slice (some ⟨gg, 0, none⟩) (L + 1) cap)
  have hkk : Kp skT 0 B w (w3.setCell ⟨q, 2, none⟩ (.slice (some ⟨gg, 0, none⟩) (L + 1) cap)) := (Kp.own r3 (by decide) hg).trans (Kp.set s1 (by decide) h8 _)
  exact ⟨{ rows := ⟨A1, c1, some ⟨gg, 0, none⟩, cap, cs, s1.set 2 _, own_farS (ownKp r2 hk (by decide)) s1 (by decide) _, own_farS ho s1 (by decide) _⟩, seen := ⟨bs, (h4.kp hk (by decide)).kp hk2 (by decide), h5, h6⟩, disk := h7.below (hkk.below h10), qB := h8, gB := h9, bs := Nat.le_trans h10 hkk.size }, hkk⟩
theorem SkW.setX (h : SkW w q n B gs Ad cd s S L xs) {g2 l2 c2 i : Nat} (h1 : w.cell? ⟨q, 2, none⟩ = some (.slice (some ⟨g2, 0, none⟩) l2 c2)) (hi : i < L * 6) (v : Value) :
    (∃ y, w.cell? ⟨g2, i, none⟩ = some y) ∧ w.frozen? ⟨g2, i, none⟩ = false ∧ SkW (w.setCell ⟨g2, i, none⟩ v) q n B gs Ad cd s S L (xs.set i v) ∧ Kp skT 0 B w (w.setCell ⟨g2, i, none⟩ v) ∧ (w.setCell ⟨g2, i, none⟩ v).cell? ⟨q, 2, none⟩ = w.cell? ⟨q, 2, none⟩ ∧ Kp [61] 0 B w (w.setCell ⟨g2, i, none⟩ v) := by
  obtain ⟨⟨A1, c1, A2', c2', cs, r1, r2, r3⟩, ⟨bs, h4, h5, h6⟩, h7, h8, h9, h10⟩ := h
  have e := r1.cell 2
  rw [h1] at e
  simp only [List.getElem?_toArray, List.getElem?_cons_succ, List.getElem?_cons_zero, Option.some.injEq, Value.slice.injEq] at e
  obtain ⟨rfl, rfl, rfl⟩ := e
  obtain ⟨g3, cs2, e3, hgl, hrr, hcs, hcc⟩ := own_row r3 (by omega)
  injection e3 with e3
  injection e3 with e3 _
  subst e3
  have q6 := own_cell r3 hi
  have hk := kpSetS (i := i) hrr v
  have hkk : Kp [61] 0 B w (w.setCell ⟨g2, i, none⟩ v) := Kp.set hrr (by decide) hgl v
  have hkk2 : Kp skT 0 B w (w.setCell ⟨g2, i, none⟩ v) := Kp.set hrr (by decide) hgl v
  exact ⟨q6.1, q6.2, { rows := ⟨A1, c1, some ⟨g2, 0, none⟩, c2, cs, r1.kp hk (by decide), own_farS r2 hrr (by decide) _, own_set r3 hi v⟩, seen := ⟨bs, h4.kp hk (by decide), h5, h6⟩, disk := h7.below (hkk.below h10), qB := h8, gB := h9, bs := Nat.le_trans h10 hkk.size }, hkk2, ((r1.kp hk (by decide)).cell 2).trans (r1.cell 2).symm, hkk⟩
end
set_option maxHeartbeats 2000000 in
theorem twice_any {w : World} {q n B gs cd d : Nat} {Ad : Option Addr} {s : Nat → ByteArray} {S : TS} (h : SkW w q n B gs Ad cd s S S.it.length (S.it.flatMap encSI)) (hL : S.it.length ≤ 1000) (nm : ByteArray) (v : Bool) (hv : v = true ↔ tTwice S.it d nm) :
    Calls Tryz.prog 111 #[.pointer (some ⟨q, 0, none⟩), .int .i64 d, .string nm] w fun e w' => e = .returned (.bool v) ∧ w = w' := by
  obtain ⟨⟨A1, c1, A2, c2, cs, r1, r2, r3⟩, _⟩ := h
  have k2 : w.cell? ⟨q, 2, none⟩ = some (.slice A2 S.it.length c2) := r1.cell 2
  have HS := Lib.hid (own_sl r3)
  have HV := Lib.hid hv
  obtain ⟨L, hl⟩ : ∃ L, S.it.length = L := ⟨_, rfl⟩
  rw [hl] at k2 HS hL
  have HL := Lib.hid hl
  clear r1 r2 r3 hv hl
  go_enter Tryz.func111, Tryz.ntmps111
  go_wp2_with fail
  go_loop [7] (fun s7 => ∃ i : Nat, i ≤ L ∧ s7 = .int .i64 i ∧ ∀ j x, j < i → S.it[j]? = some x → ¬ (x.dir = d ∧ x.nm = nm)) (fun s => L - (intOf s).toNat)
  case atStart => exact ⟨0, by omega, rfl, fun j x hj => by omega⟩
  case round =>
    obtain ⟨i, hi, rfl, hj⟩ := hrel
    have HJ := Lib.hid hj
    clear hj
    by_cases hlt : i < L
    · obtain ⟨x, hx⟩ : ∃ x, S.it[i]? = some x := ⟨_, List.getElem?_eq_getElem (by rw [HL.out]; exact hlt)⟩
      obtain ⟨bb, ob, hA, _, g1⟩ := HS.out (i * 6 + 1) (by omega)
      obtain ⟨_, _, hA2, _, g3⟩ := HS.out (i * 6 + 3) (by omega)
      subst hA
      simp only [Option.some.injEq, Addr.mk.injEq, and_true] at hA2
      obtain ⟨rfl, rfl⟩ := hA2
      have f1 : (S.it.flatMap encSI).getD (i * 6 + 1) undef = .int .i64 (x.dir : Int) := by rw [List.getD_eq_getElem?_getD, encSI_get _ _ _ _ hx (by omega)]; rfl
      have f3 : (S.it.flatMap encSI).getD (i * 6 + 3) undef = .string x.nm := by rw [List.getD_eq_getElem?_getD, encSI_get _ _ _ _ hx (by omega)]; rfl
      dsimp only at g1 g3
      rw [f1] at g1
      rw [f3] at g3
      rw [← Nat.add_assoc] at g1 g3
      have hli : (i : Int) < (L : Int) := by omega
      have HX := Lib.hid hx
      have HSTEP := Lib.hid (fun (hn : ¬ (x.dir = d ∧ x.nm = nm)) (j : Nat) (y : TIt) (hj : j < i + 1) (hy : S.it[j]? = some y) => show ¬ (y.dir = d ∧ y.nm = nm) from by
        rcases Nat.lt_or_ge j i with h | h
        · exact HJ.out j y h hy
        · obtain rfl : j = i := by omega
          rw [HX.out] at hy
          injection hy with hy
          subst hy
          exact hn)
      obtain ⟨xd, hxd⟩ : ∃ y, x.dir = y := ⟨_, rfl⟩
      obtain ⟨xn, hxn⟩ : ∃ y, x.nm = y := ⟨_, rfl⟩
      rw [hxd] at g1
      rw [hxn] at g3
      have HXD := Lib.hid hxd
      have HXN := Lib.hid hxn
      clear hx f1 f3 hxd hxn
      by_cases e1 : xd = d
      · have t1 : ((xd : Int) == (d : Int)) = true := by simp; omega
        by_cases e2 : xn = nm
        · have t2 : (xn.toList == nm.toList) = true := str_eq_true e2
          obtain rfl : v = true := HV.out.2 ⟨x, List.mem_of_getElem? HX.out, by rw [HXD.out]; exact e1, by rw [HXN.out]; exact e2⟩
          clear e1 e2
          go_wp2_with fail
          go_ret
          exact ⟨rfl, rfl⟩
        · have t2 : (xn.toList == nm.toList) = false := str_eq_false e2
          have HN := Lib.hid (HSTEP.out (fun q => e2 (by rw [← HXN.out]; exact q.2)))
          clear e1 e2
          go_wp2_with fail
          go_round
          case rel => exact ⟨i + 1, by omega, by go_num, HN.out⟩
          case measure => simp [intOf]; omega
      · have t1 : ((xd : Int) == (d : Int)) = false := by simp; omega
        have HN := Lib.hid (HSTEP.out (fun q => e1 (by rw [← HXD.out]; exact q.1)))
        clear e1
        go_wp2_with fail
        go_round
        case rel => exact ⟨i + 1, by omega, by go_num, HN.out⟩
        case measure => simp [intOf]; omega
    · obtain rfl : i = L := by omega
      obtain rfl := bF HV.out (fun ⟨x, hx, e⟩ => by
        obtain ⟨j, hj, he⟩ := List.mem_iff_getElem.1 hx
        exact HJ.out j x (by rw [HL.out] at hj; exact hj) (by rw [List.getElem?_eq_getElem hj, he]) e)
      go_wp2_with fail
      go_ret
      exact ⟨rfl, rfl⟩
end Go.Proofs.YtiefcgmghkkbmaaGreatDoor
