/-
  Disks of extents: which entries are valid: the reference's side.
-/
import Derived.Test.YtmgcaiilocifbaaGreatDoorXvT
namespace Go.Proofs.YtmgcaiilocifbaaGreatDoor
open Go Go.ChangeShapes Go.WideShapes Go.ChangeAt Go.RowKit lib
set_option linter.unusedVariables false
set_option linter.unusedSimpArgs false
set_option maxRecDepth 100000
theorem l00InX (a b c : Int) (w : World) : Calls Tryz.prog 28 #[.int .i64 a, .int .i64 b, .int .i64 c] w fun e w' => e = .returned (.bool (decide (b ≤ a) && decide (a ≤ c))) ∧ w' = w :=
  (l00In_any a b c w).mono fun e w' h => ⟨h.1, h.2.symm⟩
theorem specNameX (s : ByteArray) (hs : s.size ≤ 9223372036854775807) (b : Bool) (hb : b = true ↔ NameS s) (w : World) : Calls Tryz.prog 52 #[.string s] w fun e w' => e = .returned (.bool b) ∧ w' = w :=
  (specIsName_any s hs b hb w).mono fun e w' h => ⟨h.1, h.2.symm⟩
theorem specValidX_free (q : Nat) (zz : Int) (nm : ByteArray) (no tl : Int) (m : Nat) (A : Option Addr) (c : Nat) (w : World) (b : Bool) (hb : b = true ↔ (nm = ⟨#[]⟩ ∧ no = 0 ∧ tl = 0 ∧ m = 0)) (hlen : m ≤ 1048576)
    (hr : Rw w q 38 #[.int .i64 0, .string nm, .int .i64 no, .int .i64 tl, .slice A m c]) :
    Calls Tryz.prog 37 #[.pointer (some ⟨q, 0, none⟩), .int .i64 zz] w fun r w' => r = .returned (.bool b) ∧ w' = w := by
  have c0 := hr.cell 0
  have c1 := hr.cell 1
  have c2 := hr.cell 2
  have c3 := hr.cell 3
  have c4 := hr.cell 4
  have hm : m = 0 ↔ (m : Int) = 0 := by omega
  rw [hm] at hb
  clear hr
  by_cases h1 : nm = ⟨#[]⟩
  · subst h1
    by_cases h2 : no = 0
    · subst h2
      by_cases h3 : tl = 0
      · subst h3
        by_cases h4 : (m : Int) = 0
        · have hbt : b = true := hb.2 ⟨rfl, rfl, rfl, h4⟩
          have q1 : ((m : Int) == 0) = true := by simp; omega
          have q2 : ((m : Int) = 0) = True := by simp; omega
          subst hbt
          clear hb hm h4
          go_enter Tryz.func37, Tryz.ntmps37
          go_wp2
          go_ret
          exact ⟨rfl, rfl⟩
        · have hbf : b = false := by
            cases hbb : b with
            | false => rfl
            | true => exact absurd (hb.1 hbb).2.2.2 h4
          have q1 : ((m : Int) == 0) = false := by simp; omega
          have q2 : ((m : Int) = 0) = False := by simp; omega
          subst hbf
          clear hb hm h4
          go_enter Tryz.func37, Tryz.ntmps37
          go_wp2
          go_ret
          exact ⟨rfl, rfl⟩
      · have hbf : b = false := by
          cases hbb : b with
          | false => rfl
          | true => exact absurd (hb.1 hbb).2.2.1 h3
        have q1 : (tl == 0) = false := by simp [h3]
        have q2 : (tl = 0) = False := by simp [h3]
        subst hbf
        clear hb hm h3
        go_enter Tryz.func37, Tryz.ntmps37
        go_wp2
        go_ret
        exact ⟨rfl, rfl⟩
    · have hbf : b = false := by
        cases hbb : b with
        | false => rfl
        | true => exact absurd (hb.1 hbb).2.1 h2
      have q1 : (no == 0) = false := by simp [h2]
      have q2 : (no = 0) = False := by simp [h2]
      subst hbf
      clear hb hm h2
      go_enter Tryz.func37, Tryz.ntmps37
      go_wp2
      go_ret
      exact ⟨rfl, rfl⟩
  · have hbf : b = false := by
      cases hbb : b with
      | false => rfl
      | true => exact absurd (hb.1 hbb).1 h1
    have q1 : nm.toList.isEmpty = false := isEmpty_no h1
    subst hbf
    clear hb hm h1
    go_enter Tryz.func37, Tryz.ntmps37
    go_wp2
    go_ret
    exact ⟨rfl, rfl⟩
set_option maxHeartbeats 4000000 in
theorem specValidX_some (q z : Nat) (st : Int) (nm : ByteArray) (no tl : Int) (m : Nat) (y : Nat → Int) (A : Option Addr) (c : Nat) (w : World) (he : st ≠ 0) (b0 b1 b2 b3 b4 b5 : Bool) (h0 : b0 = true ↔ (st = 1 ∨ st = 229)) (h1 : b1 = true ↔ NameS nm) (h2 : (decide ((0 : Int) ≤ no) && decide (no ≤ 31)) = b2) (h3 : (decide ((0 : Int) ≤ tl) && decide (tl ≤ z)) = b3)
    (h4 : b4 = true ↔ m ≤ 4) (h5 : b5 = true ↔ ∃ i, i < m ∧ ¬ (0 ≤ y i ∧ y i ≤ 255)) (hnm : nm.size ≤ 9223372036854775807)
    (hlen : m ≤ 1048576) (hr : Rw w q 38 #[.int .i64 st, .string nm, .int .i64 no, .int .i64 tl, .slice A m c]) (hs : Sl w w.heap.size A m (fun i => .int .i64 (y i))) :
    Calls Tryz.prog 37 #[.pointer (some ⟨q, 0, none⟩), .int .i64 z] w fun r w' => r = .returned (.bool (b0 && b1 && b2 && b3 && b4 && !b5)) ∧ w' = w := by
  have HN := Lib.hid (fun w : World => specNameX nm hnm b1 h1 w)
  have c0 := hr.cell 0
  have c1 := hr.cell 1
  have c2 := hr.cell 2
  have c3 := hr.cell 3
  have c4 := hr.cell 4
  have e0 : (st == 0) = false := by simp [he]
  have e0' : (st = 0) = False := by simp [he]
  have hb0 : b0 = decide (st = 1 ∨ st = 229) := by rw [Bool.eq_iff_iff, h0, decide_eq_true_iff]
  have hb4 : b4 = decide (m ≤ 4) := by rw [Bool.eq_iff_iff, h4, decide_eq_true_iff]
  have hcase : (b0 = true ∧ st = 1) ∨ (b0 = true ∧ st = 229) ∨ (b0 = false ∧ st ≠ 1 ∧ st ≠ 229) := by
    rw [hb0]
    by_cases q1 : st = 1
    · left; simp [q1]
    · by_cases q2 : st = 229
      · right; left; simp [q2]
      · right; right; simp [q1, q2]
  have hcase4 : (b4 = true ∧ decide ((m : Int) ≤ 4) = true) ∨ (b4 = false ∧ decide ((m : Int) ≤ 4) = false) := by
    rw [hb4]
    by_cases q : m ≤ 4
    · left; simp [q]; omega
    · right; simp [q]; omega
  have HS := Lib.hid hs
  have HB5 := Lib.hid h5
  have HCA := Lib.hid hcase
  have HC4 := Lib.hid hcase4
  have HE := Lib.hid he
  clear h0 h1 h4 h5 hb0 hb4 hs hr hcase hcase4 he
  go_enter Tryz.func37, Tryz.ntmps37
  go_wp2_with fail
  go_loopw [5] (fun s5 wr => ∃ k : Nat, k ≤ m ∧ s5 = .int .i64 k ∧ (∀ j, j < k → 0 ≤ y j ∧ y j ≤ 255) ∧ wr = w) (fun i _ => m - (intOf i).toNat)
  case atStart => exact ⟨0, Nat.zero_le _, rfl, fun j hj => absurd hj (by omega), rfl⟩
  case round =>
    obtain ⟨k, hk, rfl, hj, rfl⟩ := hrel
    have HJ := Lib.hid hj
    clear hj
    by_cases hlt : k < m
    · obtain ⟨bk, o, rfl, hbk, hc⟩ := HS.out k hlt
      dsimp only at hc
      obtain ⟨x, hx⟩ : ∃ x, y k = x := ⟨_, rfl⟩
      rw [hx] at hc
      have HX := Lib.hid hx
      clear hx
      have HV := Lib.hid (fun w : World => l00InX x 0 255 w)
      by_cases hx : 0 ≤ x ∧ x ≤ 255
      · rw [show (decide (0 ≤ x) && decide (x ≤ 255)) = true by simp; exact hx] at HV
        have HXX := Lib.hid hx
        clear hx
        go_wp2_with (go_at_call 28; refine (HV.out _).mono ?_; rintro e w' ⟨rfl, rfl⟩)
        exact ⟨⟨k + 1, by omega, by go_num, fun j hj => by
          rcases Nat.lt_succ_iff_lt_or_eq.1 hj with h | rfl
          · exact HJ.out j h
          · rw [HX.out]; exact HXX.out, trivial⟩, by simp [intOf]; omega⟩
      · rw [show (decide (0 ≤ x) && decide (x ≤ 255)) = false by rw [Bool.eq_false_iff]; intro h; simp at h; exact hx h] at HV
        have hbt : b5 = true := HB5.out.2 ⟨k, hlt, by rw [HX.out]; exact hx⟩
        subst hbt
        clear hx
        go_wp2_with (go_at_call 28; refine (HV.out _).mono ?_; rintro e w' ⟨rfl, rfl⟩)
        go_ret
        exact ⟨by simp, rfl⟩
    · obtain rfl : k = m := by omega
      have hbf : b5 = false := by
        cases hbb : b5 with
        | false => rfl
        | true =>
          obtain ⟨i, hi, hn⟩ := HB5.out.1 hbb
          exact absurd (HJ.out i hi) hn
      subst hbf
      have hsplit : b1 = false ∨ (b1 = true ∧ b2 = false) ∨ (b1 = true ∧ b2 = true ∧ b3 = false) ∨ (b1 = true ∧ b2 = true ∧ b3 = true) := by cases b1 <;> cases b2 <;> cases b3 <;> simp
      rcases HCA.out with ⟨rfl, rfl⟩ | ⟨rfl, rfl⟩ | ⟨rfl, q1, q2⟩
      · rcases hsplit with rfl | ⟨rfl, rfl⟩ | ⟨rfl, rfl, rfl⟩ | ⟨rfl, rfl, rfl⟩
        all_goals rcases HC4.out with ⟨rfl, q4⟩ | ⟨rfl, q4⟩
        all_goals
          go_wp2_with (first
            | (go_at_call 52; refine (HN.out _).mono ?_; rintro e w' ⟨rfl, rfl⟩)
            | (go_at_call 28; refine (l00InX _ _ _ _).mono ?_; rintro e w' ⟨rfl, rfl⟩))
          go_ret
          exact ⟨rfl, rfl⟩
      · rcases hsplit with rfl | ⟨rfl, rfl⟩ | ⟨rfl, rfl, rfl⟩ | ⟨rfl, rfl, rfl⟩
        all_goals rcases HC4.out with ⟨rfl, q4⟩ | ⟨rfl, q4⟩
        all_goals
          go_wp2_with (first
            | (go_at_call 52; refine (HN.out _).mono ?_; rintro e w' ⟨rfl, rfl⟩)
            | (go_at_call 28; refine (l00InX _ _ _ _).mono ?_; rintro e w' ⟨rfl, rfl⟩))
          go_ret
          exact ⟨rfl, rfl⟩
      · have q1' : (st == 1) = false := by simp [q1]
        have q2' : (st == 229) = false := by simp [q2]
        have q1'' : (st = 1) = False := by simp [q1]
        have q2'' : (st = 229) = False := by simp [q2]
        go_wp2_with (first
          | (go_at_call 52; refine (HN.out _).mono ?_; rintro e w' ⟨rfl, rfl⟩)
          | (go_at_call 28; refine (l00InX _ _ _ _).mono ?_; rintro e w' ⟨rfl, rfl⟩))
        go_ret
        exact ⟨rfl, rfl⟩
theorem specValidX_any (q z : Nat) (e : XE) (A : Option Addr) (c : Nat) (w : World) (b : Bool) (hb : b = true ↔ e.ok z) (hnm : e.nm.size ≤ 9223372036854775807)
    (hlen : e.bl.length ≤ 1048576) (hr : Rw w q 38 #[.int .i64 e.st, .string e.nm, .int .i64 e.no, .int .i64 e.tl, .slice A e.bl.length c]) (hs : Sl w w.heap.size A e.bl.length (fun i => .int .i64 (e.bl.getD i 0))) :
    Calls Tryz.prog 37 #[.pointer (some ⟨q, 0, none⟩), .int .i64 z] w fun r w' => r = .returned (.bool b) ∧ w' = w := by
  open Classical in
  by_cases he : e.st = 0
  · rw [he] at hr
    exact specValidX_free q z e.nm e.no e.tl e.bl.length A c w b (by rw [hb]; unfold XE.ok; rw [List.length_eq_zero_iff]; simp [he]) hlen hr
  · rw [xeOk_bool he hb]
    exact specValidX_some q z e.st e.nm e.no e.tl e.bl.length (fun i => e.bl.getD i 0) A c w he _ _ _ _ _ _ decide_eq_true_iff decide_eq_true_iff rfl rfl decide_eq_true_iff decide_eq_true_iff hnm hlen hr hs
end Go.Proofs.YtmgcaiilocifbaaGreatDoor
