/-
  Disks of extents: which entries are valid, both sides.
-/
import Derived.Test.YtmgcaiilocifbaaGreatDoorXeP
import Derived.Deep.DeepCutAuto
namespace Go.Proofs.YtmgcaiilocifbaaGreatDoor
open Go Go.ChangeShapes Go.WideShapes Go.ChangeAt Go.RowKit lib
set_option linter.unusedVariables false
set_option linter.unusedSimpArgs false
set_option maxRecDepth 100000
theorem isByteX (x : Int) (w : World) : Calls Tryz.prog 82 #[.int .i64 x] w fun e w' => e = .returned (.bool (decide (0 ≤ x) && decide (x ≤ 255))) ∧ w' = w :=
  (isByte_any x w).mono fun e w' h => ⟨h.1, h.2.symm⟩
theorem valid1_any (x : Int) (w : World) : Calls Tryz.prog 81 #[.int .i64 x] w fun e w' => e = .returned (.bool (!(decide (0 ≤ x) && decide (x ≤ 255)))) ∧ w' = w := by
  have HW := Lib.hid (fun w : World => isByteX x w)
  generalize (decide (0 ≤ x) && decide (x ≤ 255)) = b at *
  go_enter Tryz.func81, Tryz.ntmps81
  go_wp2_with (go_at_call 82; refine (HW.out _).mono ?_; rintro e w' ⟨rfl, rfl⟩)
  go_ret
  exact ⟨rfl, rfl⟩
/-- numbers that are no bytes -/
theorem indexBad_any (A : Option Addr) (c n : Nat) (z : Nat → Int) (w : World) (hl : n ≤ 1048576) (hs : Sl w w.heap.size A n (fun i => .int .i64 (z i))) (b : Bool) (hb : b = true ↔ ∃ i, i < n ∧ ¬ (0 ≤ z i ∧ z i ≤ 255)) :
    Calls Tryz.prog 84 #[.slice A n c, .func (.func 81) #[] #[]] w fun e w' => ∃ i : Int, e = .returned (.int .i64 i) ∧ (decide (0 ≤ i)) = b ∧ w' = w := by
  have HS := Lib.hid hs
  have HB := Lib.hid hb
  clear hs hb
  go_enter Tryz.func84, Tryz.ntmps84
  go_wp2_with fail
  go_loopw [5, 8] (fun s5 s8 wr => ∃ k : Nat, k ≤ n ∧ s8 = .int .i64 k ∧ (∀ j, j < k → 0 ≤ z j ∧ z j ≤ 255) ∧ wr = w) (fun _ i _ => n - (intOf i).toNat)
  case atStart => exact ⟨0, Nat.zero_le _, rfl, fun j hj => absurd hj (by omega), rfl⟩
  case round =>
    obtain ⟨k, hk, rfl, hj, rfl⟩ := hrel
    have HJ := Lib.hid hj
    clear hj
    by_cases hlt : k < n
    · obtain ⟨bk, o, rfl, hbk, hc⟩ := HS.out k hlt
      dsimp only at hc
      have HV := Lib.hid (fun w : World => valid1_any (z k) w)
      obtain ⟨x, hx⟩ : ∃ x, z k = x := ⟨_, rfl⟩
      rw [hx] at hc HV
      have HX := Lib.hid hx
      clear hx
      by_cases hx : 0 ≤ x ∧ x ≤ 255
      · rw [show (!(decide (0 ≤ x) && decide (x ≤ 255))) = false by simp; exact hx] at HV
        have HXX := Lib.hid hx
        clear hx
        go_wp2_with (go_at_call 81; refine (HV.out _).mono ?_; rintro e w' ⟨rfl, rfl⟩)
        exact ⟨⟨k + 1, by omega, by go_num, fun j hj => by
          rcases Nat.lt_succ_iff_lt_or_eq.1 hj with h | rfl
          · exact HJ.out j h
          · rw [HX.out]; exact HXX.out, trivial⟩, by simp [intOf]; omega⟩
      · rw [show (!(decide (0 ≤ x) && decide (x ≤ 255))) = true by simp; omega] at HV
        have hbt : b = true := HB.out.2 ⟨k, hlt, by rw [HX.out]; exact hx⟩
        subst hbt
        clear hx
        go_wp2_with (go_at_call 81; refine (HV.out _).mono ?_; rintro e w' ⟨rfl, rfl⟩)
        go_ret
        exact ⟨_, rfl, by simp, rfl⟩
    · obtain rfl : k = n := by omega
      have hbf : b = false := by
        cases hbb : b with
        | false => rfl
        | true =>
          obtain ⟨i, hi, hn⟩ := HB.out.1 hbb
          exact absurd (HJ.out i hi) hn
      subst hbf
      go_wp2
      go_ret
      exact ⟨_, rfl, by simp, rfl⟩
theorem containsBad_any (A : Option Addr) (c n : Nat) (z : Nat → Int) (w : World) (hl : n ≤ 1048576) (hs : Sl w w.heap.size A n (fun i => .int .i64 (z i))) (b : Bool) (hb : b = true ↔ ∃ i, i < n ∧ ¬ (0 ≤ z i ∧ z i ≤ 255)) :
    Calls Tryz.prog 65 #[.slice A n c, .func (.func 81) #[] #[]] w fun e w' => e = .returned (.bool b) ∧ w' = w := by
  have HI := Lib.hid (indexBad_any A c n z w hl hs b hb)
  clear hs hb
  go_enter Tryz.func65, Tryz.ntmps65
  go_wp2_with (go_at_call 84; refine HI.out.mono ?_; rintro e w' ⟨i, rfl, hi, rfl⟩)
  go_ret
  subst hi
  exact ⟨rfl, rfl⟩
theorem within_symX (a b c : Int) (w : World) : Calls Tryz.prog 53 #[.int .i64 a, .int .i64 b, .int .i64 c] w fun e w' => e = .returned (.bool (decide (b ≤ a) && decide (a ≤ c))) ∧ w' = w :=
  (within_any a b c w).mono fun e w' h => ⟨h.1, h.2.symm⟩
theorem isName_symX (s : ByteArray) (hs : s.size ≤ 9223372036854775807) (b : Bool) (hb : b = true ↔ NameS s) (w : World) : Calls Tryz.prog 80 #[.string s] w fun e w' => e = .returned (.bool b) ∧ w' = w :=
  (implIsName_any s hs b hb w).mono fun e w' h => ⟨h.1, h.2.symm⟩
/-- the state is free -/
theorem implValidX_free (p n z E t : Nat) (v : Value) (e : XE) (A : Option Addr) (c : Nat) (w : World) (he : e.st = 0) (b : Bool) (hb : b = true ↔ (e.nm = ⟨#[]⟩ ∧ e.no = 0 ∧ e.tl = 0 ∧ e.bl.length = 0)) (hlen : e.bl.length ≤ 1048576) :
    Calls Tryz.prog 60 #[.pointer (some ⟨p, 0, none⟩), e.val A c] w fun r w' => r = .returned (.bool b) ∧ Below w.heap.size w w' := by
  obtain ⟨st, nm, no, tl, bl⟩ := e
  simp only at he hb hlen
  subst he
  unfold XE.val
  simp only
  generalize bl.length = m at *
  have hr := Rw.new w 38 #[.int .i64 0, .string nm, .int .i64 no, .int .i64 tl, .slice A m c]
  have hB := (Below.refl w.heap.size w).alloc (Nat.le_refl _) (.cells #[.int .i64 0, .string nm, .int .i64 no, .int .i64 tl, .slice A m c] 38)
  have hm : m = 0 ↔ (m : Int) = 0 := by omega
  rw [hm] at hb
  by_cases h1 : nm = ⟨#[]⟩
  · subst h1
    by_cases h2 : no = 0
    · subst h2
      by_cases h3 : tl = 0
      · subst h3
        by_cases h4 : (m : Int) = 0
        · have hbt : b = true := hb.2 ⟨rfl, rfl, rfl, h4⟩
          have q1 : ((m : Int) == 0) = true := by simp [h4]
          have q2 : ((m : Int) = 0) = True := by simp [h4]
          subst hbt
          clear hb hm h4
          go_enter Tryz.func60, Tryz.ntmps60
          go_wp2
          go_ret
          exact ⟨rfl, hB⟩
        · have hbf : b = false := by
            cases hbb : b with
            | false => rfl
            | true => exact absurd (hb.1 hbb).2.2.2 h4
          have q1 : ((m : Int) == 0) = false := by simp; omega
          have q2 : ((m : Int) = 0) = False := by simp; omega
          subst hbf
          clear hb hm h4
          go_enter Tryz.func60, Tryz.ntmps60
          go_wp2
          go_ret
          exact ⟨rfl, hB⟩
      · have hbf : b = false := by
          cases hbb : b with
          | false => rfl
          | true => exact absurd (hb.1 hbb).2.2.1 h3
        have q1 : (tl == 0) = false := by simp [h3]
        have q2 : (tl = 0) = False := by simp [h3]
        subst hbf
        clear hb hm h3
        go_enter Tryz.func60, Tryz.ntmps60
        go_wp2
        go_ret
        exact ⟨rfl, hB⟩
    · have hbf : b = false := by
        cases hbb : b with
        | false => rfl
        | true => exact absurd (hb.1 hbb).2.1 h2
      have q1 : (no == 0) = false := by simp [h2]
      have q2 : (no = 0) = False := by simp [h2]
      subst hbf
      clear hb hm h2
      go_enter Tryz.func60, Tryz.ntmps60
      go_wp2
      go_ret
      exact ⟨rfl, hB⟩
  · have hbf : b = false := by
      cases hbb : b with
      | false => rfl
      | true => exact absurd (hb.1 hbb).1 h1
    have q1 : nm.toList.isEmpty = false := isEmpty_no h1
    subst hbf
    clear hb hm h1
    go_enter Tryz.func60, Tryz.ntmps60
    go_wp2
    go_ret
    exact ⟨rfl, hB⟩
set_option maxHeartbeats 4000000 in
/-- another state -/
theorem implValidX_some (p z : Nat) (e : XE) (A : Option Addr) (c : Nat) (w : World) (he : e.st ≠ 0) (b0 b1 b2 b3 b4 b5 : Bool) (h0 : b0 = true ↔ (e.st = 1 ∨ e.st = 229)) (h1 : b1 = true ↔ NameS e.nm) (h2 : (decide ((0 : Int) ≤ e.no) && decide (e.no ≤ 31)) = b2) (h3 : (decide ((0 : Int) ≤ e.tl) && decide (e.tl ≤ z)) = b3)
    (h4 : b4 = true ↔ e.bl.length ≤ 4) (h5 : b5 = true ↔ ∃ i, i < e.bl.length ∧ ¬ (0 ≤ e.bl.getD i 0 ∧ e.bl.getD i 0 ≤ 255)) (hnm : e.nm.size ≤ 9223372036854775807)
    (hlen : e.bl.length ≤ 1048576) (hp : p < w.heap.size) (hz : w.cell? ⟨p, 1, none⟩ = some (.int .i64 z)) (hs : Sl w w.heap.size A e.bl.length (fun i => .int .i64 (e.bl.getD i 0))) :
    Calls Tryz.prog 60 #[.pointer (some ⟨p, 0, none⟩), e.val A c] w fun r w' => r = .returned (.bool (b0 && b1 && b2 && b3 && b4 && !b5)) ∧ Below w.heap.size w w' := by
  have HC := Lib.hid (fun (w : World) (hs : Sl w w.heap.size A e.bl.length (fun i => .int .i64 (e.bl.getD i 0))) => containsBad_any A c e.bl.length _ w hlen hs b5 h5)
  have HN := Lib.hid (fun w : World => isName_symX e.nm hnm b1 h1 w)
  obtain ⟨st, nm, no, tl, bl⟩ := e
  simp only at *
  unfold XE.val
  simp only
  have hs2 := (hs.alloc (Nat.le_refl _) (.cells #[.int .i64 st, .string nm, .int .i64 no, .int .i64 tl, .slice A bl.length c] 38)).more (show w.heap.size ≤ (w.alloc (.cells #[.int .i64 st, .string nm, .int .i64 no, .int .i64 tl, .slice A bl.length c] 38)).heap.size by simp)
  generalize (fun i => Value.int .i64 (bl.getD i 0)) = ff at *
  generalize bl.length = m at *
  have hr := Rw.new w 38 #[.int .i64 st, .string nm, .int .i64 no, .int .i64 tl, .slice A m c]
  have hB := (Below.refl w.heap.size w).alloc (Nat.le_refl _) (.cells #[.int .i64 st, .string nm, .int .i64 no, .int .i64 tl, .slice A m c] 38)
  have hz2 := (hB.cell (p := ⟨p, 1, none⟩) hp).trans hz
  have e0 : (st == 0) = false := by simp [he]
  have e0' : (st = 0) = False := by simp [he]
  have hb0 : b0 = decide (st = 1 ∨ st = 229) := by rw [Bool.eq_iff_iff, h0, decide_eq_true_iff]
  have hb4 : b4 = decide (m ≤ 4) := by rw [Bool.eq_iff_iff, h4, decide_eq_true_iff]
  have hcase : (b0 = true ∧ st = 1) ∨ (b0 = true ∧ st = 229) ∨ (b0 = false ∧ st ≠ 1 ∧ st ≠ 229) := by
    rw [hb0]
    by_cases q1 : st = 1
    · left; simp [q1]
    · by_cases q2 : st = 229
      · right; left; simp [q2]
      · right; right; simp [q1, q2]
  have hcase4 : (b4 = true ∧ decide ((m : Int) ≤ 4) = true) ∨ (b4 = false ∧ decide ((m : Int) ≤ 4) = false) := by
    rw [hb4]
    by_cases q : m ≤ 4
    · left; simp [q]; omega
    · right; simp [q]; omega
  have HR := Lib.hid hr
  have HS2 := Lib.hid hs2
  clear h0 h1 h4 h5 hb0 hb4 hs hs2
  have c0 := hr.cell 0
  have c1 := hr.cell 1
  have c2 := hr.cell 2
  have c3 := hr.cell 3
  have c4 := hr.cell 4
  clear hr
  have hsplit : b1 = false ∨ (b1 = true ∧ b2 = false) ∨ (b1 = true ∧ b2 = true ∧ b3 = false) ∨ (b1 = true ∧ b2 = true ∧ b3 = true) := by cases b1 <;> cases b2 <;> cases b3 <;> simp
  rcases hcase with ⟨rfl, rfl⟩ | ⟨rfl, rfl⟩ | ⟨rfl, q1, q2⟩
  · rcases hsplit with rfl | ⟨rfl, rfl⟩ | ⟨rfl, rfl, rfl⟩ | ⟨rfl, rfl, rfl⟩
    all_goals rcases hcase4 with ⟨rfl, q4⟩ | ⟨rfl, q4⟩
    all_goals
      go_enter Tryz.func60, Tryz.ntmps60
      go_wp2
      go_quiet ((first
        | (go_at_call 80; refine Calls.quiet_of_same (HN.out _))
        | (go_at_call 53; refine Calls.quiet_of_same (within_symX _ _ _ _))))
      go_wp2_with (go_at_call 65; refine (HC.out _ (HS2.out.drewN _)).mono ?_; rintro e w' ⟨rfl, rfl⟩)
      go_ret
      exact ⟨rfl, hB.drewN _⟩
  · rcases hsplit with rfl | ⟨rfl, rfl⟩ | ⟨rfl, rfl, rfl⟩ | ⟨rfl, rfl, rfl⟩
    all_goals rcases hcase4 with ⟨rfl, q4⟩ | ⟨rfl, q4⟩
    all_goals
      go_enter Tryz.func60, Tryz.ntmps60
      go_wp2
      go_quiet ((first
        | (go_at_call 80; refine Calls.quiet_of_same (HN.out _))
        | (go_at_call 53; refine Calls.quiet_of_same (within_symX _ _ _ _))))
      go_wp2_with (go_at_call 65; refine (HC.out _ (HS2.out.drewN _)).mono ?_; rintro e w' ⟨rfl, rfl⟩)
      go_ret
      exact ⟨rfl, hB.drewN _⟩
  · have q1' : (st != 1) = true := by simp [q1]
    have q2' : (st != 229) = true := by simp [q2]
    have q1'' : (st = 1) = False := by simp [q1]
    have q2'' : (st = 229) = False := by simp [q2]
    go_enter Tryz.func60, Tryz.ntmps60
    go_wp2
    go_quiet ((first
      | (go_at_call 80; refine Calls.quiet_of_same (HN.out _))
      | (go_at_call 53; refine Calls.quiet_of_same (within_symX _ _ _ _))))
    go_wp2
    go_ret
    exact ⟨rfl, hB.drewN _⟩
open Classical in
theorem xeOk_bool {e : XE} {z : Nat} {b : Bool} (he : e.st ≠ 0) (hb : b = true ↔ e.ok z) : b = (decide (e.st = 1 ∨ e.st = 229) && decide (NameS e.nm) && (decide ((0 : Int) ≤ e.no) && decide (e.no ≤ 31)) && (decide ((0 : Int) ≤ e.tl) && decide (e.tl ≤ z)) && decide (e.bl.length ≤ 4) && !decide (∃ i, i < e.bl.length ∧ ¬ (0 ≤ e.bl.getD i 0 ∧ e.bl.getD i 0 ≤ 255))) := by
  rw [Bool.eq_iff_iff, hb]
  have hall : (∀ x, x ∈ e.bl → 0 ≤ x ∧ x ≤ 255) ↔ ¬ ∃ i, i < e.bl.length ∧ ¬ (0 ≤ e.bl.getD i 0 ∧ e.bl.getD i 0 ≤ 255) := by
    constructor
    · rintro h ⟨i, hi, hn⟩
      exact hn (h _ (by rw [List.getD_eq_getElem?_getD, List.getElem?_eq_getElem hi]; exact List.getElem_mem hi))
    · intro h x hx
      obtain ⟨i, hi, rfl⟩ := List.mem_iff_getElem.1 hx
      apply Classical.byContradiction
      intro hn
      exact h ⟨i, hi, by rw [List.getD_eq_getElem?_getD, List.getElem?_eq_getElem hi]; exact hn⟩
  unfold XE.ok
  rw [hall]
  simp only [Bool.and_eq_true, decide_eq_true_eq, Bool.not_eq_true', decide_eq_false_iff_not]
  constructor
  · rintro (⟨h, _⟩ | ⟨h1, h2, h3, h4, h5, h6⟩)
    · exact absurd h he
    · exact ⟨⟨⟨⟨⟨h1, h2⟩, h3⟩, h4⟩, h5⟩, h6⟩
  · rintro ⟨⟨⟨⟨⟨h1, h2⟩, h3⟩, h4⟩, h5⟩, h6⟩
    exact .inr ⟨h1, h2, h3, h4, h5, h6⟩
theorem implValidX_any (p z : Nat) (e : XE) (A : Option Addr) (c : Nat) (w : World) (b : Bool) (hb : b = true ↔ e.ok z) (hnm : e.nm.size ≤ 9223372036854775807)
    (hlen : e.bl.length ≤ 1048576) (hp : p < w.heap.size) (hz : w.cell? ⟨p, 1, none⟩ = some (.int .i64 z)) (hs : Sl w w.heap.size A e.bl.length (fun i => .int .i64 (e.bl.getD i 0))) :
    Calls Tryz.prog 60 #[.pointer (some ⟨p, 0, none⟩), e.val A c] w fun r w' => r = .returned (.bool b) ∧ Below w.heap.size w w' := by
  open Classical in
  by_cases he : e.st = 0
  · exact implValidX_free p 0 z 0 0 undef e A c w he b (by rw [hb]; unfold XE.ok; rw [List.length_eq_zero_iff]; simp [he]) hlen
  · rw [xeOk_bool he hb]
    exact implValidX_some p z e A c w he _ _ _ _ _ _ decide_eq_true_iff decide_eq_true_iff rfl rfl decide_eq_true_iff decide_eq_true_iff hnm hlen hp hz hs
end Go.Proofs.YtmgcaiilocifbaaGreatDoor
