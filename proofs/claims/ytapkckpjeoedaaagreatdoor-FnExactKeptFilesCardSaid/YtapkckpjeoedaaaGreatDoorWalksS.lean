/-
  Disks of chains: the walks of all entries: the reference's side.
-/
import Derived.Test.YtapkckpjeoedaaaGreatDoorWalksI
namespace Go.Proofs.YtapkckpjeoedaaaGreatDoor
open Go Go.ChangeShapes Go.WideShapes Go.ChangeAt Go.RowKit lib
set_option linter.unusedVariables false
set_option maxRecDepth 100000
/-- two rows of other types are not one -/
theorem own_ne2 {w : World} {B B' e e' k k' n n' : Nat} {v v' : Value} {xs xs' : List Value} (h : w.ownsRow B e k v n xs) (h' : w.ownsRow B' e' k' v' n' xs') (hne : e ≠ e') : v.ownBlock = none ∨ v'.ownBlock ≠ v.ownBlock := by
  rcases h.2 with ⟨hv, _⟩ | ⟨g, cap, cur, hv, hb, hg, _⟩
  · left; rw [hv]; rfl
  · right
    rcases h'.2 with ⟨hv', _⟩ | ⟨g', cap', cur', hv', hb', hg', _⟩
    · rw [hv, hv']
      simp [Value.ownBlock]
    · rw [hv, hv']
      intro he
      have : g' = g := by simpa [Value.ownBlock] using he
      subst this
      rw [hg] at hg'
      injection hg' with hg'
      injection hg' with _ h2 _
      exact hne h2
section
variable {P : Program} {w w0 : World}
/-- 'out = append(out, x)', x of three cells, in a new block of its own -/
theorem wpList_push3 {ops : Array Oper} {rest : List Oper} {o : Oper} {a : Act} {Q : Exit → Act → World → Prop} (s x : Operand) (t : TypeId) (base e : Nat) (z u0 u1 u2 : Value) (bytes : Nat) (v : Value) (n : Nat) (xs : List Value)
    (hown : w0.ownsRow base e 3 v n xs) (hg : o.guard = none) (hop : o.op = .call { callee := .builtin .append, args := #[s, x], argTypes := #[t, t] })
    (h1 : P.underlying t = some (.slice e)) (hinfo : (P.info? e).map (fun i => (i.zero, i.size, i.bytes)) = some (some z, 3, bytes)) (hz : z.cells.size = 3)
    (hs : a.eval s = v) (hx : a.eval x = .slice (some ⟨w0.heap.size, 0, none⟩) 1 1) (hw : w = w0.alloc (.cells #[u0, u1, u2] e)) (hu0 : u0.oneCell' = true) (hu1 : u1.oneCell' = true) (hu2 : u2.oneCell' = true) (hn : n ≤ 1099511627776) (hby : bytes ≤ 64) (hbase : base ≤ w0.heap.size)
    (hK : ∀ A' c' w1, w1.ownsRow base e 3 (.slice (some A') (n + 1) c') (n + 1) (xs ++ [u0, u1, u2]) → w0.grownBy w1 v.ownBlock → wpList P ops Q rest (a.put o.dst (.slice (some A') (n + 1) c')) w1) :
    wpList P ops Q (o :: rest) a w := by
  obtain ⟨i0, hi, hz0, hz1, hz2⟩ := info_parts hinfo
  subst hw
  have hb : (n + 1) * bytes ≤ 140737488355328 := by
    have := Nat.mul_le_mul (show n + 1 ≤ 1099511627777 by omega) hby
    omega
  refine wpList_append_own _ hg s x t hop base e i0 z 3 bytes h1 hi hz0 hz1 hz2 hz (by decide) v n xs hs (hown.alloc _) ⟨w0.heap.size, 0, none⟩ 1 1 [u0, u1, u2] hx rfl ?_ ?_ (by simp only [maxLen]; omega) hb (by simp; omega) ?_
  · intro j q hq
    have hr := Rw.new w0 e #[u0, u1, u2]
    match j, hq with
    | 0, hq => simp at hq; subst hq; exact hr.cell 0
    | 1, hq => simp at hq; subst hq; exact hr.cell 1
    | 2, hq => simp at hq; subst hq; exact hr.cell 2
  · intro q hq
    simp at hq
    rcases hq with rfl | rfl | rfl
    · exact hu0
    · exact hu1
    · exact hu2
  · intro v' w1 hown1 hgrow _
    obtain ⟨g, cap, rfl, _, _⟩ := hown1.form (by omega)
    exact hK _ _ _ hown1 (only_trans (only_alloc (only_refl _ _) _) hgrow)
end
/-- a list of walks that was appended -/
def WOut (B : Nat) (w : World) (Aq : Option Addr) (cq m : Nat) (xs : List Value) (f : Nat → List Nat × Nat × Nat) : Prop :=
  w.ownsRow B 103 3 (.slice Aq m cq) m xs ∧ ∃ (A : Nat → Option Addr) (c : Nat → Nat),
    ∀ i, i < m → (xs[i * 3]? = some (.slice (A i) (f i).1.length (c i)) ∧ xs[i * 3 + 1]? = some (.int .i64 ((f i).2.1 : Int)) ∧ xs[i * 3 + 2]? = some (.int .i64 ((f i).2.2 : Int))) ∧ IntsR B w (A i) (c i) (f i).1
theorem tT : 2 ≠ 103 := by decide
theorem WOut.below {B : Nat} {w w' : World} {Aq : Option Addr} {cq m : Nat} {xs : List Value} {f : Nat → List Nat × Nat × Nat} (h : WOut B w Aq cq m xs f) (hb : Below w.heap.size w w') : WOut B w' Aq cq m xs f := by
  obtain ⟨h1, A, c, h2⟩ := h
  exact ⟨own_below h1 hb, A, c, fun i hi => ⟨(h2 i hi).1, (h2 i hi).2.below hb⟩⟩
theorem WOut.far {B : Nat} {w : World} {Aq : Option Addr} {cq m : Nat} {xs : List Value} {f : Nat → List Nat × Nat × Nat} (h : WOut B w Aq cq m xs f) {p : Addr} (hp : p.block < B) (x : Value) : WOut B (w.setCell p x) Aq cq m xs f := by
  obtain ⟨h1, A, c, h2⟩ := h
  exact ⟨own_far h1 hp x, A, c, fun i hi => ⟨(h2 i hi).1, (h2 i hi).2.far hp x⟩⟩
theorem WOut.push {B : Nat} {w0 w1 : World} {Aq : Option Addr} {cq m c' c0 : Nat} {xs : List Value} {f : Nat → List Nat × Nat × Nat} {r : List Nat × Nat × Nat} {A0 : Option Addr} {A' : Addr} (h : WOut B w0 Aq cq m xs f) (hr : IntsR B w0 A0 c0 r.1)
    (hown : w1.ownsRow B 103 3 (.slice (some A') (m + 1) c') (m + 1) (xs ++ [.slice A0 r.1.length c0, .int .i64 (r.2.1 : Int), .int .i64 (r.2.2 : Int)])) (hg : w0.grownBy w1 (Value.slice Aq m cq).ownBlock) :
    WOut B w1 (some A') c' (m + 1) (xs ++ [.slice A0 r.1.length c0, .int .i64 (r.2.1 : Int), .int .i64 (r.2.2 : Int)]) (fun i => if i = m then r else f i) := by
  obtain ⟨h1, A, c, h2⟩ := h
  have hl : xs.length = m * 3 := h1.1
  refine ⟨hown, fun i => if i = m then A0 else A i, fun i => if i = m then c0 else c i, fun i hi => ?_⟩
  by_cases e : i = m
  · subst e
    simp only [if_true]
    refine ⟨?_, hr.grown hg (own_ne2 hr h1 tT)⟩
    rw [← hl]
    simp
  · simp only [e, if_false]
    obtain ⟨⟨a, b, d⟩, hi2⟩ := h2 i (by omega)
    refine ⟨?_, hi2.grown hg (own_ne2 hi2 h1 tT)⟩
    rw [List.getElem?_append_left (by omega), List.getElem?_append_left (by omega), List.getElem?_append_left (by omega)]
    exact ⟨a, b, d⟩
theorem WOut.congr {B : Nat} {w : World} {Aq : Option Addr} {cq m : Nat} {xs : List Value} {f g : Nat → List Nat × Nat × Nat} (h : WOut B w Aq cq m xs f) (he : ∀ i, i < m → f i = g i) : WOut B w Aq cq m xs g := by
  obtain ⟨h1, A, c, h2⟩ := h
  exact ⟨h1, A, c, fun i hi => by rw [← he i hi]; exact h2 i hi⟩
theorem WOut.made (w : World) : WOut w.heap.size (w.alloc (.cells #[] 103)) (some ⟨w.heap.size, 0, none⟩) 0 0 [] (fun _ => ([], 0, 0)) :=
  ⟨⟨rfl, .inr ⟨w.heap.size, 0, #[], rfl, Nat.le_refl _, heap_alloc_new w _, Nat.le_refl _, by simp [maxLen], rfl, rfl⟩⟩, fun _ => none, fun _ => 0, fun i hi => absurd hi (by omega)⟩
theorem setOwn_take (own : Nat → Int) (l : List Nat) (k : Int) {i : Nat} (hi : i < l.length) : (fun x => if x = l.getD i 0 then k else setOwn own (l.take i) k x) = setOwn own (l.take (i + 1)) k := by
  rw [List.take_add_one, List.getElem?_eq_getElem hi, Option.toList_some, ← setOwn_snoc]
  simp [List.getD_eq_getElem?_getD, hi]
theorem infoCW : (Tryz.prog.info? 103).map (fun i => (i.zero, i.size, i.bytes)) = some (some (.agg #[.slice none 0 0, .int .i64 0, .int .i64 0]), 3, 40) := by kernel_rfl
theorem WOut.base {B B' : Nat} {w : World} {Aq : Option Addr} {cq m : Nat} {xs : List Value} {f : Nat → List Nat × Nat × Nat} (h : WOut B w Aq cq m xs f) (hB : B' ≤ B) : WOut B' w Aq cq m xs f := by
  obtain ⟨h1, A, c, h2⟩ := h
  exact ⟨own_base h1 hB, A, c, fun i hi => ⟨(h2 i hi).1, (h2 i hi).2.base hB⟩⟩
theorem WOut.setq {B q : Nat} {w : World} {Aq : Option Addr} {cq m : Nat} {xs : List Value} {f : Nat → List Nat × Nat × Nat} {cs : Array Value} (h : WOut B w Aq cq m xs f) (hr : Rw w q 103 cs) (hne : (Value.slice Aq m cq).ownBlock = none ∨ some q ≠ (Value.slice Aq m cq).ownBlock) (j : Nat) (x : Value) : WOut B (w.setCell ⟨q, j, none⟩ x) Aq cq m xs f := by
  obtain ⟨h1, A, c, h2⟩ := h
  exact ⟨h1.kept (only_setCell (g := q) (p := ⟨q, j, none⟩) (only_refl w _) (.inl rfl) x) (hne.imp id fun h e => h e.symm), A, c, fun i hi => ⟨(h2 i hi).1, own_farR (h2 i hi).2 hr tT j x⟩⟩
set_option maxHeartbeats 4000000 in
theorem specWalks_any {w : World} {p g n z E d t N c : Nat} {u : Nat → UInt8} (h : ChW w p g n z E d t N c u) (hn : n ≤ 128) (hNz : z + n ≤ N) (hN : N ≤ 4096) (hcN : N ≤ c) (hE : E ≤ 16) (hd : d = dirN n z) (hfit : ∀ k, k < E → d * z + k * 12 + 12 ≤ N) :
    Calls Tryz.prog 67 #[.pointer (some ⟨p, 0, none⟩)] w fun r w' => ∃ Aq cq xs, r = .returned (.tuple #[.slice Aq E cq, .slice (some ⟨w.heap.size, 0, none⟩) n n]) ∧ ORow w' 2 w.heap.size n (ownsN n z t u E) ∧ WOut (w.heap.size + 1) w' Aq cq E xs (walkN n z t u) ∧ Below w.heap.size w w' := by
  have mkO : ∀ W : World, (Instr.makeSlice 74 (.int .i64 (n : Int)) (.int .i64 (n : Int))).run Tryz.prog W = .ok (.slice (some ⟨W.heap.size, 0, none⟩) n n) (W.alloc (.cells (madeCells #[.int .i64 0] n) 2)) := fun W => by
    have := run_mk (P := Tryz.prog) 74 2 (.int .i64 0) 1 8 Tryz.underlying74 (by kernel_rfl) (by omega) n (by omega) W
    rw [Nat.mul_one] at this
    exact this
  have hini : ORow (w.alloc (.cells (madeCells #[.int .i64 0] n) 2)) 2 w.heap.size n (fun _ => 0) ∧ Below w.heap.size w (w.alloc (.cells (madeCells #[.int .i64 0] n) 2)) := ⟨ORow.made _ _ _, (Below.refl _ _).alloc (Nat.le_refl _) _⟩
  have HINI := Lib.hid hini
  have HH := Lib.hid h
  have HFIT := Lib.hid hfit
  have HD := Lib.hid hd
  have h0 := h.c0
  have hpl := h.plt
  have hgl := h.row.lt
  clear hini h hfit hd
  go_enter Tryz.func67, Tryz.ntmps67
  go_wp2_with fail
  go_loopw [5] (fun s5 wr => ∃ k : Nat, k ≤ n ∧ s5 = .int .i64 k ∧ ORow wr 2 w.heap.size n (fun i => if i < k then -1 else 0) ∧ Below w.heap.size w wr) (fun s _ => n - (intOf s).toNat)
  case atStart => exact ⟨0, by omega, rfl, HINI.out.1.congr (fun i hi => by simp), HINI.out.2⟩
  case round =>
    obtain ⟨k, hk, rfl, ho, hb⟩ := hrel
    have HO := Lib.hid ho
    have HB := Lib.hid hb
    have hC := HH.out.below hb
    have c0 := hC.c0
    clear hb
    by_cases hlt : k < n
    · have hoc := ho.cell hlt
      have hof := ho.frozen hlt
      clear ho
      go_wp2_with fail
      go_roundw
      case rel =>
        refine ⟨k + 1, by omega, by go_num, (HO.out.set k (-1)).congr (fun i hi => ?_), HB.out.setCell (Nat.le_refl _) _⟩
        by_cases e : i = k
        · simp [e]
        · by_cases e2 : i < k
          · simp [e, e2, show i < k + 1 by omega]
          · simp [e, e2, show ¬ i < k + 1 by omega]
      case measure => simp [intOf]; omega
    · obtain rfl : k = n := by omega
      have HO1 : Hid (ORow wr 2 w.heap.size k (fun _ => -1)) := ho.congr (fun i hi => by simp [hi])
      have hol := ho.lt
      clear ho HO
      generalize hW0 : wr = W0 at *
      clear hW0
      go_wp2_with fail
      go_loopw [6, 7] (fun s6 s7 wr => ∃ (m : Nat) (Aq : Option Addr) (cq : Nat) (xs : List Value), m ≤ E ∧ s6 = .slice Aq m cq ∧ s7 = .int .i64 m ∧ ORow wr 2 w.heap.size k (ownsN k z t u m) ∧ WOut (w.heap.size + 1) wr Aq cq m xs (walkN k z t u) ∧ Below w.heap.size w wr) (fun _ s _ => E - (intOf s).toNat)
      case atStart => exact ⟨0, _, 0, [], by omega, rfl, rfl, HO1.alloc _, ((WOut.made W0).base (by omega)).congr (fun i hi => absurd hi (by omega)), HB.out.alloc HB.out.size _⟩
      case round =>
        obtain ⟨m, Aq, cq, xs, hm, rfl, rfl, ho, hw, hb⟩ := hrel
        have HO2 := Lib.hid ho
        have HW2 := Lib.hid hw
        have HB2 := Lib.hid hb
        have hC2 := HH.out.below hb
        have c2 := hC2.c2
        have hol2 := ho.lt
        clear ho hw hb
        by_cases hlt2 : m < E
        · have t1 := HFIT.out m hlt2
          have HON := Lib.hid (fun i => (ownsN_lt k z t u m i).1)
          go_upto_region 12 with (first
            | (go_at_call 68; refine (specEntry_any m _ hC2 rfl t1 (by omega) hcN (by omega)).mono ?_; intro e2 w2 h2; obtain ⟨b, nm, f, l, us, de, hb0, he0, rfl, hb2, n8, f8, l8, hbf⟩ := entOut_parts h2))
          have HEK := Lib.hid (show (entK k z u m).us = us ∧ (entK k z u m).f = f by unfold entK; rw [← HD.out, he0]; exact ⟨rfl, rfl⟩)
          have hcase : (b = true ∧ us = true) ∨ (b = true ∧ us = false) ∨ (b = false ∧ us = false) := by
            cases b
            · exact .inr (.inr ⟨rfl, (hbf rfl).1⟩)
            · cases us <;> simp
          have hbz := HB2.out.size
          have hal0 := ((hb2.alloc hb2.size (.cells #[.string nm, .int .i64 f, .int .i64 l, .bool us, .bool de] 82)).alloc (by simp; exact Nat.le_trans hb2.size (by omega)) (.cells #[] 2)).alloc (by simp; exact Nat.le_trans hb2.size (by omega)) (.cells #[.slice (some ⟨w2.heap.size + 1, 0, none⟩) 0 0, .int .i64 0, .int .i64 0] 103)
          have HB3 := Lib.hid (HB2.out.trans (hal0.mono hbz))
          have HW3 := Lib.hid (HW2.out.below hal0)
          have HO3 := Lib.hid (HO2.out.below hal0 HO2.out.lt)
          have hC3 := hC2.below hal0
          have hr := ((Rw.new w2 82 #[.string nm, .int .i64 f, .int .i64 l, .bool us, .bool de]).alloc (.cells #[] 2)).alloc (.cells #[.slice (some ⟨w2.heap.size + 1, 0, none⟩) 0 0, .int .i64 0, .int .i64 0] 103)
          have r1 := hr.cell 1
          have r3 := hr.cell 3
          have h10 := Rw.new ((w2.alloc (.cells #[.string nm, .int .i64 f, .int .i64 l, .bool us, .bool de] 82)).alloc (.cells #[] 2)) 103 #[.slice (some ⟨w2.heap.size + 1, 0, none⟩) 0 0, .int .i64 0, .int .i64 0]
          rw [World.size_alloc, World.size_alloc] at h10
          have hiw := own_nil0 (w2.alloc (.cells #[.string nm, .int .i64 f, .int .i64 l, .bool us, .bool de] 82)) 2
          rw [World.size_alloc] at hiw
          have hiw2 := own_base (hiw.alloc (.cells #[.slice (some ⟨w2.heap.size + 1, 0, none⟩) 0 0, .int .i64 0, .int .i64 0] 103)) (show w.heap.size + 1 ≤ w2.heap.size + 1 by have := hb2.size; omega)
          have hw2z : w.heap.size ≤ w2.heap.size := by have := hb2.size; omega
          have x0 := h10.cell 0
          have x1 := h10.cell 1
          have x2 := h10.cell 2
          have y0 := h10.frozen 0
          have y1 := h10.frozen 1
          have y2 := h10.frozen 2
          clear hbf he0 hb0 h2 hal0 hr hiw hC2
          generalize ((w2.alloc (.cells #[.string nm, .int .i64 f, .int .i64 l, .bool us, .bool de] 82)).alloc (.cells #[] 2)).alloc (.cells #[.slice (some ⟨w2.heap.size + 1, 0, none⟩) 0 0, .int .i64 0, .int .i64 0] 103) = W3 at *
          have H10 := Lib.hid h10
          have HIW := Lib.hid hiw2
          clear h10 hiw2
          have HWNE := Lib.hid (show (Value.slice Aq m cq).ownBlock = none ∨ some (w2.heap.size + 1 + 1) ≠ (Value.slice Aq m cq).ownBlock by
            cases hv : (Value.slice Aq m cq).ownBlock with
            | none => exact .inl rfl
            | some gg => exact .inr (fun e => by have := (HW2.out.1.lt gg hv).2; have := hb2.size; injection e; omega))
          rcases hcase with ⟨rfl, rfl⟩ | ⟨rfl, rfl⟩ | ⟨rfl, rfl⟩
          · have HOU := Lib.hid (ownsN_used (t := t) HEK.out.1)
            have HWU := Lib.hid (walkN_used (t := t) HEK.out.1)
            obtain ⟨R, hR⟩ : ∃ R, walkOf t k (lkN z u) (ownsN k z t u m) f = R := ⟨_, rfl⟩
            have HRR := Lib.hid hR
            have HL5 := Lib.hid (hR ▸ (walkOf_ok t k (lkN z u) (ownsN k z t u m) f).1)
            have HCF := Lib.hid (specWalk_any f (ownsN k z t u m) f8 hC3 hn hNz hN HO3.out (Nat.le_refl k))
            clear hR
            go_upto_region 14 with (go_at_call 102; refine HCF.out.mono ?_; rw [HRR.out]; rintro e5 w5 ⟨A5, c5, rfl, hi5, hb5⟩; unfold walkV; have h105 := H10.out.below hb5 H10.out.lt; have x50 := h105.cell 0; have x51 := h105.cell 1; have x52 := h105.cell 2; have y50 := h105.frozen 0; have y51 := h105.frozen 1; have y52 := h105.frozen 2)
            have R10 := Lib.hid (show Rw (((w5.setCell ⟨w2.heap.size + 1 + 1, 0, none⟩ (.slice A5 R.1.length c5)).setCell ⟨w2.heap.size + 1 + 1, 1, none⟩ (.int .i64 (R.2.1 : Int))).setCell ⟨w2.heap.size + 1 + 1, 2, none⟩ (.int .i64 (R.2.2 : Int))) (w2.heap.size + 1 + 1) 103 #[.slice A5 R.1.length c5, .int .i64 (R.2.1 : Int), .int .i64 (R.2.2 : Int)] by simpa using ((h105.set 0 (.slice A5 R.1.length c5)).set 1 (.int .i64 (R.2.1 : Int))).set 2 (.int .i64 (R.2.2 : Int)))
            have hW3z : w.heap.size + 1 ≤ W3.heap.size := by have := HO3.out.lt; omega
            have HI5 := Lib.hid (own_farR (own_farR (own_farR (hi5.base hW3z) h105 tT 0 (.slice A5 R.1.length c5)) (h105.set 0 (.slice A5 R.1.length c5)) tT 1 (.int .i64 (R.2.1 : Int))) ((h105.set 0 (.slice A5 R.1.length c5)).set 1 (.int .i64 (R.2.1 : Int))) tT 2 (.int .i64 (R.2.2 : Int)))
            have HO5 := Lib.hid ((((HO3.out.below hb5 HO3.out.lt).far (p := ⟨w2.heap.size + 1 + 1, 0, none⟩) (show w.heap.size ≠ w2.heap.size + 1 + 1 by omega) (.slice A5 R.1.length c5)).far (p := ⟨w2.heap.size + 1 + 1, 1, none⟩) (show w.heap.size ≠ w2.heap.size + 1 + 1 by omega) (.int .i64 (R.2.1 : Int))).far (p := ⟨w2.heap.size + 1 + 1, 2, none⟩) (show w.heap.size ≠ w2.heap.size + 1 + 1 by omega) (.int .i64 (R.2.2 : Int)))
            have HW5 := Lib.hid ((((HW3.out.below hb5).setq h105 HWNE.out 0 (.slice A5 R.1.length c5)).setq (h105.set 0 (.slice A5 R.1.length c5)) HWNE.out 1 (.int .i64 (R.2.1 : Int))).setq ((h105.set 0 (.slice A5 R.1.length c5)).set 1 (.int .i64 (R.2.1 : Int))) HWNE.out 2 (.int .i64 (R.2.2 : Int)))
            have HB5 := Lib.hid ((((HB3.out.trans (hb5.mono HB3.out.size)).setCell (p := ⟨w2.heap.size + 1 + 1, 0, none⟩) (show w.heap.size ≤ w2.heap.size + 1 + 1 by omega) (.slice A5 R.1.length c5)).setCell (p := ⟨w2.heap.size + 1 + 1, 1, none⟩) (show w.heap.size ≤ w2.heap.size + 1 + 1 by omega) (.int .i64 (R.2.1 : Int))).setCell (p := ⟨w2.heap.size + 1 + 1, 2, none⟩) (show w.heap.size ≤ w2.heap.size + 1 + 1 by omega) (.int .i64 (R.2.2 : Int)))
            have HFINO := Lib.hid (show ownsN k z t u (m + 1) = setOwn (ownsN k z t u m) R.1 (m : Int) by rw [HOU.out, HEK.out.2, HRR.out])
            have HFINW := Lib.hid (show R = walkN k z t u m by rw [HWU.out, HEK.out.2, HRR.out])
            clear h105 x50 x51 x52 y50 y51 y52 x0 x1 x2 y0 y1 y2 hi5 hb5 r1 r3
            generalize hQ10 : w2.heap.size + 1 + 1 = Q10 at *
            have t0 := R10.out.cell 0
            have t1' := R10.out.cell 1
            have t2 := R10.out.cell 2
            have hqo : Q10 ≠ w.heap.size := by omega
            have hlen5 := HL5.out.len
            go_wp2_with fail
            go_loopw [11] (fun s11 wr => ∃ i : Nat, i ≤ R.1.length ∧ s11 = .int .i64 i ∧ ORow wr 2 w.heap.size k (setOwn (ownsN k z t u m) (R.1.take i) (m : Int)) ∧ Rw wr Q10 103 #[.slice A5 R.1.length c5, .int .i64 (R.2.1 : Int), .int .i64 (R.2.2 : Int)] ∧ IntsR (w.heap.size + 1) wr A5 c5 R.1 ∧ WOut (w.heap.size + 1) wr Aq cq m xs (walkN k z t u) ∧ Below w.heap.size w wr) (fun s _ => R.1.length - (intOf s).toNat)
            case atStart => exact ⟨0, by omega, rfl, by rw [List.take_zero, setOwn_nil]; exact HO5.out, R10.out, HI5.out, HW5.out, HB5.out⟩
            case round =>
              obtain ⟨i, hi, rfl, ho, hr, hii, hww, hb⟩ := hrel
              have HO6 := Lib.hid ho
              have HR6 := Lib.hid hr
              have HI6 := Lib.hid hii
              have HW6 := Lib.hid hww
              have HB6 := Lib.hid hb
              have z0 := hr.cell 0
              have z1 := hr.cell 1
              have z2 := hr.cell 2
              clear t0 t1' t2
              by_cases hlt3 : i < R.1.length
              · obtain ⟨bb, oo, hA, hbb, hcc⟩ := hii.sl i hlt3
                have hy := HL5.out.lt (R.1.getD i 0) (by rw [List.getD_eq_getElem?_getD, List.getElem?_eq_getElem hlt3]; exact List.getElem_mem hlt3)
                have HST := Lib.hid (setOwn_take (ownsN k z t u m) R.1 (m : Int) hlt3)
                have hoc := ho.cell hy.2
                have hof := ho.frozen hy.2
                subst hA
                dsimp only at hcc
                obtain ⟨yy, hyy⟩ : ∃ yy, R.1.getD i 0 = yy := ⟨_, rfl⟩
                rw [hyy] at hcc hoc hof hy
                have HYY := Lib.hid hyy
                have hy2 := hy.2
                clear ho hr hii hww hb hyy hy
                go_wp2_with fail
                go_roundw
                case rel => exact ⟨i + 1, by omega, by go_num, by rw [← HST.out, HYY.out]; exact HO6.out.set yy m, HR6.out.far hqo _, HI6.out.far (show w.heap.size < w.heap.size + 1 by omega) _, HW6.out.far (show w.heap.size < w.heap.size + 1 by omega) _, HB6.out.setCell (Nat.le_refl _) _⟩
                case measure => simp [intOf]; omega
              · have hie : i = R.1.length := by omega
                have HIE := Lib.hid hie
                have hwz : w.heap.size + 1 ≤ wr.heap.size := by have := ho.lt; omega
                clear ho hr hii hww hb hie
                go_wp2_with (at_builtin; refine wpList_push3 (.tmp 73) (.tmp 75) 94 (w.heap.size + 1) 103 (.agg #[.slice none 0 0, .int .i64 0, .int .i64 0]) _ _ _ 40 _ m _ HW6.out.1 rfl rfl Tryz.underlying94 infoCW rfl rfl rfl rfl rfl rfl rfl (by omega) (by omega) hwz ?_; intro A' c3 w3 ho3 hg3)
                go_roundw
                case rel =>
                  have hown := HW6.out.1
                  refine ⟨m + 1, some A', c3, _, by omega, rfl, by go_num, ?_, (HW6.out.push HI6.out ho3 hg3).congr (fun j hj => ?_), HB6.out.grown hg3 HB6.out.size (fun j hj => by have := own_lt hown j hj; omega)⟩
                  · have hfin := HO6.out.grown hg3 (by
                      cases hv : (Value.slice Aq m cq).ownBlock with
                      | none => simp
                      | some gg => have := own_lt hown gg hv; intro e; injection e; omega)
                    rw [HIE.out, List.take_length] at hfin
                    rw [HFINO.out]
                    exact hfin
                  · by_cases e : j = m
                    · subst e
                      simp only [if_true]
                      exact HFINW.out
                    · simp [e]
                case measure => simp [intOf]; omega
          · have HOU := Lib.hid (ownsN_not (t := t) HEK.out.1)
            have HWU := Lib.hid (walkN_not (t := t) HEK.out.1)
            go_upto_region 14 with fail
            obtain ⟨R, hR⟩ : ∃ R : List Nat × Nat × Nat, R = ([], 0, 0) := ⟨_, rfl⟩
            obtain ⟨A5, hA5⟩ : ∃ A : Option Addr, A = some ⟨w2.heap.size + 1, 0, none⟩ := ⟨_, rfl⟩
            obtain ⟨c5, hc5⟩ : ∃ c : Nat, c = 0 := ⟨_, rfl⟩
            have R10 := Lib.hid (show Rw W3 (w2.heap.size + 1 + 1) 103 #[.slice A5 R.1.length c5, .int .i64 (R.2.1 : Int), .int .i64 (R.2.2 : Int)] by rw [hR, hA5, hc5]; exact H10.out)
            have HI5 := Lib.hid (show IntsR (w.heap.size + 1) W3 A5 c5 R.1 by rw [hR, hA5, hc5]; exact HIW.out)
            have HO5 := HO3
            have HW5 := HW3
            have HB5 := HB3
            have HL5 := Lib.hid (show ChL t k R.1 by rw [hR]; exact ChL.nil t k)
            have HFINO := Lib.hid (show ownsN k z t u (m + 1) = setOwn (ownsN k z t u m) R.1 (m : Int) by rw [HOU.out, hR, setOwn_nil])
            have HFINW := Lib.hid (show R = walkN k z t u m by rw [HWU.out, hR])
            clear hR hA5 hc5 x0 x1 x2 y0 y1 y2 r1 r3
            generalize hQ10 : w2.heap.size + 1 + 1 = Q10 at *
            have t0 := R10.out.cell 0
            have t1' := R10.out.cell 1
            have t2 := R10.out.cell 2
            have hqo : Q10 ≠ w.heap.size := by omega
            have hlen5 := HL5.out.len
            go_wp2_with fail
            go_loopw [11] (fun s11 wr => ∃ i : Nat, i ≤ R.1.length ∧ s11 = .int .i64 i ∧ ORow wr 2 w.heap.size k (setOwn (ownsN k z t u m) (R.1.take i) (m : Int)) ∧ Rw wr Q10 103 #[.slice A5 R.1.length c5, .int .i64 (R.2.1 : Int), .int .i64 (R.2.2 : Int)] ∧ IntsR (w.heap.size + 1) wr A5 c5 R.1 ∧ WOut (w.heap.size + 1) wr Aq cq m xs (walkN k z t u) ∧ Below w.heap.size w wr) (fun s _ => R.1.length - (intOf s).toNat)
            case atStart => exact ⟨0, by omega, rfl, by rw [List.take_zero, setOwn_nil]; exact HO5.out, R10.out, HI5.out, HW5.out, HB5.out⟩
            case round =>
              obtain ⟨i, hi, rfl, ho, hr, hii, hww, hb⟩ := hrel
              have HO6 := Lib.hid ho
              have HR6 := Lib.hid hr
              have HI6 := Lib.hid hii
              have HW6 := Lib.hid hww
              have HB6 := Lib.hid hb
              have z0 := hr.cell 0
              have z1 := hr.cell 1
              have z2 := hr.cell 2
              clear t0 t1' t2
              by_cases hlt3 : i < R.1.length
              · obtain ⟨bb, oo, hA, hbb, hcc⟩ := hii.sl i hlt3
                have hy := HL5.out.lt (R.1.getD i 0) (by rw [List.getD_eq_getElem?_getD, List.getElem?_eq_getElem hlt3]; exact List.getElem_mem hlt3)
                have HST := Lib.hid (setOwn_take (ownsN k z t u m) R.1 (m : Int) hlt3)
                have hoc := ho.cell hy.2
                have hof := ho.frozen hy.2
                subst hA
                dsimp only at hcc
                obtain ⟨yy, hyy⟩ : ∃ yy, R.1.getD i 0 = yy := ⟨_, rfl⟩
                rw [hyy] at hcc hoc hof hy
                have HYY := Lib.hid hyy
                have hy2 := hy.2
                clear ho hr hii hww hb hyy hy
                go_wp2_with fail
                go_roundw
                case rel => exact ⟨i + 1, by omega, by go_num, by rw [← HST.out, HYY.out]; exact HO6.out.set yy m, HR6.out.far hqo _, HI6.out.far (show w.heap.size < w.heap.size + 1 by omega) _, HW6.out.far (show w.heap.size < w.heap.size + 1 by omega) _, HB6.out.setCell (Nat.le_refl _) _⟩
                case measure => simp [intOf]; omega
              · have hie : i = R.1.length := by omega
                have HIE := Lib.hid hie
                have hwz : w.heap.size + 1 ≤ wr.heap.size := by have := ho.lt; omega
                clear ho hr hii hww hb hie
                go_wp2_with (at_builtin; refine wpList_push3 (.tmp 73) (.tmp 75) 94 (w.heap.size + 1) 103 (.agg #[.slice none 0 0, .int .i64 0, .int .i64 0]) _ _ _ 40 _ m _ HW6.out.1 rfl rfl Tryz.underlying94 infoCW rfl rfl rfl rfl rfl rfl rfl (by omega) (by omega) hwz ?_; intro A' c3 w3 ho3 hg3)
                go_roundw
                case rel =>
                  have hown := HW6.out.1
                  refine ⟨m + 1, some A', c3, _, by omega, rfl, by go_num, ?_, (HW6.out.push HI6.out ho3 hg3).congr (fun j hj => ?_), HB6.out.grown hg3 HB6.out.size (fun j hj => by have := own_lt hown j hj; omega)⟩
                  · have hfin := HO6.out.grown hg3 (by
                      cases hv : (Value.slice Aq m cq).ownBlock with
                      | none => simp
                      | some gg => have := own_lt hown gg hv; intro e; injection e; omega)
                    rw [HIE.out, List.take_length] at hfin
                    rw [HFINO.out]
                    exact hfin
                  · by_cases e : j = m
                    · subst e
                      simp only [if_true]
                      exact HFINW.out
                    · simp [e]
                case measure => simp [intOf]; omega
          · have HOU := Lib.hid (ownsN_not (t := t) HEK.out.1)
            have HWU := Lib.hid (walkN_not (t := t) HEK.out.1)
            go_upto_region 14 with fail
            obtain ⟨R, hR⟩ : ∃ R : List Nat × Nat × Nat, R = ([], 0, 0) := ⟨_, rfl⟩
            obtain ⟨A5, hA5⟩ : ∃ A : Option Addr, A = some ⟨w2.heap.size + 1, 0, none⟩ := ⟨_, rfl⟩
            obtain ⟨c5, hc5⟩ : ∃ c : Nat, c = 0 := ⟨_, rfl⟩
            have R10 := Lib.hid (show Rw W3 (w2.heap.size + 1 + 1) 103 #[.slice A5 R.1.length c5, .int .i64 (R.2.1 : Int), .int .i64 (R.2.2 : Int)] by rw [hR, hA5, hc5]; exact H10.out)
            have HI5 := Lib.hid (show IntsR (w.heap.size + 1) W3 A5 c5 R.1 by rw [hR, hA5, hc5]; exact HIW.out)
            have HO5 := HO3
            have HW5 := HW3
            have HB5 := HB3
            have HL5 := Lib.hid (show ChL t k R.1 by rw [hR]; exact ChL.nil t k)
            have HFINO := Lib.hid (show ownsN k z t u (m + 1) = setOwn (ownsN k z t u m) R.1 (m : Int) by rw [HOU.out, hR, setOwn_nil])
            have HFINW := Lib.hid (show R = walkN k z t u m by rw [HWU.out, hR])
            clear hR hA5 hc5 x0 x1 x2 y0 y1 y2 r1 r3
            generalize hQ10 : w2.heap.size + 1 + 1 = Q10 at *
            have t0 := R10.out.cell 0
            have t1' := R10.out.cell 1
            have t2 := R10.out.cell 2
            have hqo : Q10 ≠ w.heap.size := by omega
            have hlen5 := HL5.out.len
            go_wp2_with fail
            go_loopw [11] (fun s11 wr => ∃ i : Nat, i ≤ R.1.length ∧ s11 = .int .i64 i ∧ ORow wr 2 w.heap.size k (setOwn (ownsN k z t u m) (R.1.take i) (m : Int)) ∧ Rw wr Q10 103 #[.slice A5 R.1.length c5, .int .i64 (R.2.1 : Int), .int .i64 (R.2.2 : Int)] ∧ IntsR (w.heap.size + 1) wr A5 c5 R.1 ∧ WOut (w.heap.size + 1) wr Aq cq m xs (walkN k z t u) ∧ Below w.heap.size w wr) (fun s _ => R.1.length - (intOf s).toNat)
            case atStart => exact ⟨0, by omega, rfl, by rw [List.take_zero, setOwn_nil]; exact HO5.out, R10.out, HI5.out, HW5.out, HB5.out⟩
            case round =>
              obtain ⟨i, hi, rfl, ho, hr, hii, hww, hb⟩ := hrel
              have HO6 := Lib.hid ho
              have HR6 := Lib.hid hr
              have HI6 := Lib.hid hii
              have HW6 := Lib.hid hww
              have HB6 := Lib.hid hb
              have z0 := hr.cell 0
              have z1 := hr.cell 1
              have z2 := hr.cell 2
              clear t0 t1' t2
              by_cases hlt3 : i < R.1.length
              · obtain ⟨bb, oo, hA, hbb, hcc⟩ := hii.sl i hlt3
                have hy := HL5.out.lt (R.1.getD i 0) (by rw [List.getD_eq_getElem?_getD, List.getElem?_eq_getElem hlt3]; exact List.getElem_mem hlt3)
                have HST := Lib.hid (setOwn_take (ownsN k z t u m) R.1 (m : Int) hlt3)
                have hoc := ho.cell hy.2
                have hof := ho.frozen hy.2
                subst hA
                dsimp only at hcc
                obtain ⟨yy, hyy⟩ : ∃ yy, R.1.getD i 0 = yy := ⟨_, rfl⟩
                rw [hyy] at hcc hoc hof hy
                have HYY := Lib.hid hyy
                have hy2 := hy.2
                clear ho hr hii hww hb hyy hy
                go_wp2_with fail
                go_roundw
                case rel => exact ⟨i + 1, by omega, by go_num, by rw [← HST.out, HYY.out]; exact HO6.out.set yy m, HR6.out.far hqo _, HI6.out.far (show w.heap.size < w.heap.size + 1 by omega) _, HW6.out.far (show w.heap.size < w.heap.size + 1 by omega) _, HB6.out.setCell (Nat.le_refl _) _⟩
                case measure => simp [intOf]; omega
              · have hie : i = R.1.length := by omega
                have HIE := Lib.hid hie
                have hwz : w.heap.size + 1 ≤ wr.heap.size := by have := ho.lt; omega
                clear ho hr hii hww hb hie
                go_wp2_with (at_builtin; refine wpList_push3 (.tmp 73) (.tmp 75) 94 (w.heap.size + 1) 103 (.agg #[.slice none 0 0, .int .i64 0, .int .i64 0]) _ _ _ 40 _ m _ HW6.out.1 rfl rfl Tryz.underlying94 infoCW rfl rfl rfl rfl rfl rfl rfl (by omega) (by omega) hwz ?_; intro A' c3 w3 ho3 hg3)
                go_roundw
                case rel =>
                  have hown := HW6.out.1
                  refine ⟨m + 1, some A', c3, _, by omega, rfl, by go_num, ?_, (HW6.out.push HI6.out ho3 hg3).congr (fun j hj => ?_), HB6.out.grown hg3 HB6.out.size (fun j hj => by have := own_lt hown j hj; omega)⟩
                  · have hfin := HO6.out.grown hg3 (by
                      cases hv : (Value.slice Aq m cq).ownBlock with
                      | none => simp
                      | some gg => have := own_lt hown gg hv; intro e; injection e; omega)
                    rw [HIE.out, List.take_length] at hfin
                    rw [HFINO.out]
                    exact hfin
                  · by_cases e : j = m
                    · subst e
                      simp only [if_true]
                      exact HFINW.out
                    · simp [e]
                case measure => simp [intOf]; omega
        · obtain rfl : m = E := by omega
          go_wp2_with fail
          go_ret2
          exact ⟨Aq, cq, xs, rfl, HO2.out, HW2.out, HB2.out⟩
end Go.Proofs.YtapkckpjeoedaaaGreatDoor
