/-
  Trees: the reference's walk: what it holds in memory; problems; blocks looked at.
-/
import Derived.Test.YtiefcgmghkkbmaaGreatDoorTreC2
import Derived.Test.YtiefcgmghkkbmaaGreatDoorTreK
import Derived.Test.YtiefcgmghkkbmaaGreatDoorTreM
import Derived.Test.YtiefcgmghkkbmaaGreatDoorXmPush
namespace Go.Proofs.YtiefcgmghkkbmaaGreatDoor
open Go Go.ChangeShapes Go.WideShapes Go.ChangeAt Go.RowKit lib
set_option linter.unusedVariables false
set_option linter.unusedSimpArgs false
set_option maxRecDepth 100000
def encTPs (p : Nat × Nat) : List Value := [.int .i64 (p.1 : Int), .int .i64 (p.2 : Int)]
def encSI (x : TIt) : List Value := [.int .i64 (x.blk : Int), .int .i64 (x.dir : Int), .bool x.fol, .string x.nm, .string x.dat, .bool (!x.dbl && (x.fol || x.whl))]
theorem own_farS {w : World} {B e e' k n g i : Nat} {v : Value} {xs : List Value} {cs : Array Value} (h : w.ownsRow B e k v n xs) (hr : Row w g e' cs) (hne : e ≠ e') (x : Value) : (w.setCell ⟨g, i, none⟩ x).ownsRow B e k v n xs := by
  refine h.kept (only_setCell (g := g) (only_refl _ _) (.inl rfl) x) ?_
  cases hv : v.ownBlock with
  | none => exact .inl rfl
  | some j => exact .inr (fun e2 => own_ne h hr hne (by rw [hv, e2]))
theorem kpGrownS {w w' : World} {B e k n : Nat} {v : Value} {xs : List Value} (h : w.ownsRow B e k v n xs) (hg : w.grownBy w' v.ownBlock) : Kp [e] 0 0 w w' :=
  ⟨hg.os, hg.tape, hg.output, hg.size, fun i hi hq => hg.block i hi (fun e2 => by
    rcases hq with h1 | h1
    · omega
    · exact (notOk_own (T := [e]) (m := 0) h (by simp) i e2.symm).2 h1)⟩
theorem kpSetS {w : World} {g e i : Nat} {cs : Array Value} (h : Row w g e cs) (x : Value) : Kp [e] 0 0 w (w.setCell ⟨g, i, none⟩ x) := Kp.set h (by simp) (Nat.zero_le _) x
theorem newsS2 (w : World) (e : Nat) (x y : Value) : ∀ (j : Nat) (q : Value), [x, y][j]? = some q → (w.alloc (.cells #[x, y] e)).cell? ((⟨w.heap.size, 0, none⟩ : Addr).add j) = some q := by
  intro j q hj
  have hc := Rw.new w e #[x, y]
  match j, hj with
  | 0, hj => simp at hj; subst hj; exact hc.cell 0
  | 1, hj => simp at hj; subst hj; exact hc.cell 1
def skT : List Nat := [59, 139, 61, 4]
def skF : List Nat := [59, 139, 4]
theorem infoTPs : (Tryz.prog.info? 139).map (fun i => (i.zero, i.size, i.bytes)) = some (some (.agg #[.int .i64 0, .int .i64 0]), 2, 16) := by kernel_rfl
/-- the walk in block q: the disk, the visited blocks in row gs, problems as S says, L items of cells xs -/
structure SkW (w : World) (q n B gs : Nat) (Ad : Option Addr) (cd : Nat) (s : Nat → ByteArray) (S : TS) (L : Nat) (xs : List Value) : Prop where
  rows : ∃ A1 c1 A2 c2 cs, Row w q 59 #[.slice Ad n cd, .slice (some ⟨gs, 0, none⟩) n cs, .slice A2 L c2, .slice A1 S.pr.length c1] ∧ w.ownsRow B 139 2 (.slice A1 S.pr.length c1) S.pr.length (S.pr.flatMap encTPs) ∧ w.ownsRow B 61 6 (.slice A2 L c2) L xs
  seen : ∃ bs, Row w gs 4 bs ∧ n ≤ bs.size ∧ ∀ i, i < n → bs[i]? = some (.bool (S.sn i))
  disk : Sl w B Ad n (fun i => .string (s i))
  qB : B ≤ q
  gB : B ≤ gs
  bs : B ≤ w.heap.size
section
variable {w w' : World} {q n B gs cd L : Nat} {Ad : Option Addr} {s : Nat → ByteArray} {S : TS} {xs : List Value}
theorem SkW.below (h : SkW w q n B gs Ad cd s S L xs) (hb : Below w.heap.size w w') : SkW w' q n B gs Ad cd s S L xs := by
  obtain ⟨⟨A1, c1, A2, c2, cs, h1, h2, h3⟩, ⟨bs, h4, h5, h6⟩, h7, h8, h9, h10⟩ := h
  exact ⟨⟨A1, c1, A2, c2, cs, h1.below hb h1.lt, own_below h2 hb, own_below h3 hb⟩, ⟨bs, h4.below hb h4.lt, h5, h6⟩, h7.below (hb.mono h10), h8, h9, Nat.le_trans h10 hb.size⟩
theorem SkW.head (h : SkW w q n B gs Ad cd s S L xs) : w.cell? ⟨q, 0, none⟩ = some (.slice Ad n cd) ∧ ∃ cs, w.cell? ⟨q, 1, none⟩ = some (.slice (some ⟨gs, 0, none⟩) n cs) := by
  obtain ⟨⟨A1, c1, A2, c2, cs, h1, _⟩, _⟩ := h
  exact ⟨h1.cell 0, cs, h1.cell 1⟩
theorem SkW.bit (h : SkW w q n B gs Ad cd s S L xs) {i : Nat} (hi : i < n) : w.cell? ⟨gs, i, none⟩ = some (.bool (S.sn i)) ∧ w.frozen? ⟨gs, i, none⟩ = false := by
  obtain ⟨_, ⟨bs, h4, h5, h6⟩, _⟩ := h
  exact ⟨(h4.cell i).trans (h6 i hi), h4.frozen (by omega)⟩
theorem SkW.addP (h : SkW w q n B gs Ad cd s S L xs) {A1 : Option Addr} {c1 gg cap k b : Nat} {w3 : World} (h1 : w.cell? ⟨q, 3, none⟩ = some (.slice A1 S.pr.length c1)) (hg : w.grownBy w3 (Value.slice A1 S.pr.length c1).ownBlock)
    (ho : w3.ownsRow B 139 2 (.slice (some ⟨gg, 0, none⟩) (S.pr.length + 1) cap) (S.pr.length + 1) (S.pr.flatMap encTPs ++ encTPs (k, b))) :
    SkW (w3.setCell ⟨q, 3, none⟩ (.slice (some ⟨gg, 0, none⟩) (S.pr.length + 1) cap)) q n B gs Ad cd s (S.prob k b) L xs ∧ Kp skF 0 B w (w3.setCell ⟨q, 3, none⟩ (.slice (some ⟨gg, 0, none⟩) (S.pr.length + 1) cap)) ∧ Kp [59, 139] 0 B w (w3.setCell ⟨q, 3, none⟩ (.slice (some ⟨gg, 0, none⟩) (S.pr.length + 1) cap)) := by
  obtain ⟨⟨A1', c1', A2, c2, cs, r1, r2, r3⟩, ⟨bs, h4, h5, h6⟩, h7, h8, h9, h10⟩ := h
  have e := r1.cell 3
  rw [h1] at e
  simp only [List.getElem?_toArray, List.getElem?_cons_succ, List.getElem?_cons_zero, Option.some.injEq, Value.slice.injEq] at e
  obtain ⟨rfl, _, rfl⟩ := e
  have hk := kpGrownS r2 hg
  have s1 := r1.kp hk (by decide)
  have hk2 := kpSetS (i := 3) s1 (.slice (some ⟨gg, 0, none⟩) (S.pr.length + 1) cap)
  have hl : (S.prob k b).pr.length = S.pr.length + 1 := by
    show (S.pr ++ [(k, b)]).length = _
    simp
  have hf : (S.prob k b).pr.flatMap encTPs = S.pr.flatMap encTPs ++ encTPs (k, b) := by
    show (S.pr ++ [(k, b)]).flatMap encTPs = _
    simp
  have hkk : Kp [59, 139] 0 B w (w3.setCell ⟨q, 3, none⟩ (.slice (some ⟨gg, 0, none⟩) (S.pr.length + 1) cap)) := (Kp.own r2 (by decide) hg).trans (Kp.set s1 (by decide) h8 _)
  refine ⟨{ rows := ⟨some ⟨gg, 0, none⟩, cap, A2, c2, cs, ?_, ?_, own_farS (ownKp r3 hk (by decide)) s1 (by decide) _⟩, seen := ⟨bs, (h4.kp hk (by decide)).kp hk2 (by decide), h5, h6⟩, disk := h7.below (hkk.below h10), qB := h8, gB := h9, bs := Nat.le_trans h10 hkk.size }, (Kp.own r2 (by decide) hg).trans (Kp.set s1 (by decide) h8 _), hkk⟩
  · rw [hl]; exact s1.set 3 _
  · rw [hl, hf]; exact own_farS ho s1 (by decide) _
/-- a block visited -/
theorem SkW.visit (h : SkW w q n B gs Ad cd s S L xs) {b : Nat} (hb : b < n) : SkW (w.setCell ⟨gs, b, none⟩ (.bool true)) q n B gs Ad cd s (S.see b) L xs ∧ Kp skF 0 B w (w.setCell ⟨gs, b, none⟩ (.bool true)) ∧ Kp [4] 0 B w (w.setCell ⟨gs, b, none⟩ (.bool true)) := by
  obtain ⟨⟨A1, c1, A2, c2, cs, r1, r2, r3⟩, ⟨bs, h4, h5, h6⟩, h7, h8, h9, h10⟩ := h
  have hk := kpSetS (i := b) h4 (.bool true)
  have hkk : Kp [4] 0 B w (w.setCell ⟨gs, b, none⟩ (.bool true)) := Kp.set h4 (by decide) h9 _
  refine ⟨{ rows := ⟨A1, c1, A2, c2, cs, r1.kp hk (by decide), own_farS r2 h4 (by decide) _, own_farS r3 h4 (by decide) _⟩, seen := ⟨bs.setIfInBounds b (.bool true), h4.set b _, by simpa using h5, fun i hi => ?_⟩, disk := h7.below (hkk.below h10), qB := h8, gB := h9, bs := Nat.le_trans h10 hkk.size }, Kp.set h4 (by decide) h9 _, hkk⟩
  rw [Array.getElem?_setIfInBounds]
  by_cases e : b = i
  · subst e
    simp only [if_true]
    rw [if_pos (by omega)]
    simp [TS.see]
  · rw [if_neg e, h6 i hi]
    simp [TS.see, Ne.symm e]
end
theorem sproblem_any {w : World} {q n B gs cd L k b : Nat} {Ad : Option Addr} {s : Nat → ByteArray} {S : TS} {xs : List Value} (h : SkW w q n B gs Ad cd s S L xs) (hl : S.pr.length ≤ 100000) (hk : k ≤ 1000) (hb : b ≤ 1000) :
    Calls Tryz.prog 77 #[.pointer (some ⟨q, 0, none⟩), .int .i64 k, .int .i64 b] w fun e w' => e = .returned (.tuple #[]) ∧ SkW w' q n B gs Ad cd s (S.prob k b) L xs ∧ Kp skF 0 B w w' ∧ w'.cell? ⟨q, 2, none⟩ = w.cell? ⟨q, 2, none⟩ ∧ Kp [59, 139] 0 B w w' := by
  have hB := h.bs
  obtain ⟨i0, hi0, hi1, hi2, hi3⟩ := info_parts infoTPs
  obtain ⟨A1, c1, A2, c2, cs, r1, r2, r3⟩ := h.rows
  have k2 : w.cell? ⟨q, 3, none⟩ = some (.slice A1 S.pr.length c1) := r1.cell 3
  have hb1 := (Below.refl w.heap.size w).alloc (Nat.le_refl _) (.cells #[.int .i64 (k : Int), .int .i64 (b : Int)] 139)
  have r1' := Row.below r1 hb1 r1.lt
  have HR := Lib.hid r1'
  have HO := Lib.hid (own_below r2 hb1)
  have hne : some q ≠ (Value.slice A1 S.pr.length c1).ownBlock := own_ne r2 r1 (by decide)
  have HNE := Lib.hid hne
  obtain ⟨Lp, hL⟩ : ∃ L, S.pr.length = L := ⟨_, rfl⟩
  have hKK : ∀ W (g2 c' : Nat) w3, W = w.alloc (.cells #[.int .i64 (k : Int), .int .i64 (b : Int)] 139) → w3.ownsRow B 139 2 (.slice (some ⟨g2, 0, none⟩) (Lp + 1) c') (Lp + 1) (S.pr.flatMap encTPs ++ [.int .i64 (k : Int), .int .i64 (b : Int)]) → W.grownBy w3 (Value.slice A1 Lp c1).ownBlock →
      SkW (w3.setCell ⟨q, 3, none⟩ (.slice (some ⟨g2, 0, none⟩) (Lp + 1) c')) q n B gs Ad cd s (S.prob k b) L xs ∧ Kp skF 0 B w (w3.setCell ⟨q, 3, none⟩ (.slice (some ⟨g2, 0, none⟩) (Lp + 1) c')) ∧ (w3.setCell ⟨q, 3, none⟩ (.slice (some ⟨g2, 0, none⟩) (Lp + 1) c')).cell? ⟨q, 2, none⟩ = w.cell? ⟨q, 2, none⟩ ∧ Kp [59, 139] 0 B w (w3.setCell ⟨q, 3, none⟩ (.slice (some ⟨g2, 0, none⟩) (Lp + 1) c')) := by
    intro W g2 c' w3 hW ho hg
    subst hW
    subst hL
    obtain ⟨a1, a2, a3⟩ := (h.below hb1).addP (k := k) (b := b) ((hb1.cell (p := ⟨q, 3, none⟩) r1.lt).trans k2) hg ho
    have hr3 := Row.grown r1' hg hne
    exact ⟨a1, (Kp.ofBelow hb1).trans a2, ((hr3.set 3 _).cell 2).trans (r1.cell 2).symm, (Kp.ofBelow hb1).trans a3⟩
  have HKK := Lib.hid hKK
  rw [hL] at k2 HO hl HNE HR
  clear h r1 r2 r3 hb1 hne r1' hKK hL
  go_enter Tryz.func77, Tryz.ntmps77
  go_wp2_with (at_builtin; refine wpList_append_lies _ rfl (.tmp 10) (.tmp 14) _ rfl B 139 i0 _ 2 16 Tryz.underlying57 hi0 hi1 hi2 hi3 rfl (by omega) (.slice A1 Lp c1) Lp _ rfl HO.out ⟨w.heap.size, 0, none⟩ 1 1 [.int .i64 (k : Int), .int .i64 (b : Int)] rfl rfl (newsS2 _ _ _ _) (by simp [Value.oneCell']) (by omega) (by simp only [maxLen]; omega) (by omega) (by simp; omega) (w.heap.size + 1) (by simp) ?_; intro gg cap w3 ho3 hgrow hat hlt3; have hr3 := Row.grown HR.out hgrow HNE.out; have hf3 := hr3.frozen (i := 3) (by simp); have hc3 := hr3.cell 3)
  go_end0
  exact ⟨rfl, HKK.out _ _ _ _ rfl ho3 hgrow⟩
open Classical in
/-- a block looked at before it is visited -/
noncomputable def tLook (n : Nat) (u : Nat → Nat → UInt8) (S : TS) (b : Nat) : TS × Bool := if n ≤ b ∨ S.sn b = true then (S.prob 3 b, false) else if usum (u b) 32 ≠ 0 then (S.prob 1 b, false) else (S, true)
set_option maxHeartbeats 2000000 in
theorem slook_any {w : World} {q n B gs cd L b : Nat} {Ad : Option Addr} {s : Nat → ByteArray} {S : TS} {xs : List Value} (h : SkW w q n B gs Ad cd s S L xs) (hn : n ≤ 128) (h32 : ∀ i, i < n → (s i).size = 32) (hl : S.pr.length ≤ 100000) (hb : b ≤ 255) :
    Calls Tryz.prog 109 #[.pointer (some ⟨q, 0, none⟩), .int .i64 b] w fun e w' => e = .returned (.bool (tLook n (fun i => byteAt (s i)) S b).2) ∧ SkW w' q n B gs Ad cd s (tLook n (fun i => byteAt (s i)) S b).1 L xs ∧ Kp skF 0 B w w' ∧ w'.cell? ⟨q, 2, none⟩ = w.cell? ⟨q, 2, none⟩ := by
  have HW := Lib.hid h
  obtain ⟨k0, cs, k1⟩ := h.head
  have HPR := Lib.hid (fun (k : Nat) (hk : k ≤ 1000) => sproblem_any h hl hk (b := b) (by omega))
  unfold tLook
  clear h hl
  by_cases h1 : n ≤ b
  · have t1 : decide ((n : Int) ≤ (b : Int)) = true := by simp; omega
    rw [if_pos (Or.inl h1)]
    go_enter Tryz.func109, Tryz.ntmps109
    go_wp2_with (go_at_call 77; refine (HPR.out 3 (by omega)).mono ?_; rintro e w1 ⟨rfl, hw1, hk1, hc1, _⟩)
    go_ret
    exact ⟨rfl, hw1, hk1, hc1⟩
  · have t1 : decide ((n : Int) ≤ (b : Int)) = false := by simp; omega
    have hbn : b < n := by omega
    have hbi : (b : Int) < (n : Int) := by omega
    have k3 := (HW.out.bit hbn).1
    obtain ⟨ba, oa, hA, hbl, hca⟩ := HW.out.disk b hbn
    subst hA
    dsimp only at hca
    cases hs : S.sn b with
    | true =>
      rw [if_pos (Or.inr rfl)]
      rw [hs] at k3
      clear hs
      go_enter Tryz.func109, Tryz.ntmps109
      go_wp2_with (go_at_call 77; refine (HPR.out 3 (by omega)).mono ?_; rintro e w1 ⟨rfl, hw1, hk1, hc1, _⟩)
      go_ret
      exact ⟨rfl, hw1, hk1, hc1⟩
    | false =>
      rw [if_neg (fun q => q.elim h1 (fun q => by cases q))]
      rw [hs] at k3
      clear hs
      by_cases hz : usum (byteAt (s b)) 32 = 0
      · rw [if_neg (fun q => q hz)]
        have HSE := Lib.hid (fun W => sealed_any (s b) (h32 b hbn) true ⟨fun _ => hz, fun _ => rfl⟩ W)
        generalize s b = x at HSE hca
        clear hz
        go_enter Tryz.func109, Tryz.ntmps109
        go_wp2_with (go_at_call 76; refine (HSE.out _).mono ?_; rintro e w' ⟨rfl, rfl⟩)
        go_ret
        exact ⟨rfl, HW.out, Kp.refl _ _ _ _, rfl⟩
      · rw [if_pos hz]
        have HSE := Lib.hid (fun W => sealed_any (s b) (h32 b hbn) false ⟨fun h => (by cases h), fun h => absurd h hz⟩ W)
        generalize hx : s b = x at HSE hca
        have HX := Lib.hid hx
        clear hz hx
        go_enter Tryz.func109, Tryz.ntmps109
        go_wp2_with (first | (go_at_call 76; refine (HSE.out _).mono ?_; rintro e w' ⟨rfl, rfl⟩) | (go_at_call 77; refine (HPR.out 1 (by omega)).mono ?_; rintro e w1 ⟨rfl, hw1, hk1, hc1, _⟩))
        go_ret
        exact ⟨rfl, hw1, hk1, hc1⟩
end Go.Proofs.YtiefcgmghkkbmaaGreatDoor
