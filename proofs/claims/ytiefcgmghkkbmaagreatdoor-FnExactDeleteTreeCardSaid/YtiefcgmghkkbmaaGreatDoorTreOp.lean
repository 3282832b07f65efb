/-
  Trees: a disk opened for a path: the program's side.
-/
import Derived.Test.YtiefcgmghkkbmaaGreatDoorTreLk
import Derived.Test.YtiefcgmghkkbmaaGreatDoorShW
namespace Go.Proofs.YtiefcgmghkkbmaaGreatDoor
open Go Go.ChangeShapes Go.WideShapes Go.ChangeAt Go.RowKit lib
set_option linter.unusedVariables false
set_option linter.unusedSimpArgs false
set_option maxRecDepth 100000
theorem names1_any (s : ByteArray) (hs : s.size ≤ 9223372036854775807) (b : Bool) (hb : b = true ↔ NameS s) (w : World) : Calls Tryz.prog 101 #[.string s] w fun e w' => e = .returned (.bool (!b)) ∧ w' = w := by
  have HN := Lib.hid (implIsName_any s hs b hb w)
  clear hb
  go_enter Tryz.func101, Tryz.ntmps101
  go_wp2_with (go_at_call 102; refine HN.out.mono ?_; rintro e w' ⟨rfl, rfl⟩)
  go_ret
  exact ⟨rfl, rfl⟩
/-- texts that are no names -/
theorem indexBad_any (A : Option Addr) (c n : Nat) (s : Nat → ByteArray) (w : World) (hl : n ≤ 1048576) (hz : ∀ i, i < n → (s i).size ≤ 9223372036854775807) (hs : Sl w w.heap.size A n (fun i => .string (s i))) (b : Bool) (hb : b = true ↔ ∃ i, i < n ∧ ¬ NameS (s i)) :
    Calls Tryz.prog 113 #[.slice A n c, .func (.func 101) #[] #[]] w fun e w' => ∃ i : Int, e = .returned (.int .i64 i) ∧ (decide (0 ≤ i)) = b ∧ w' = w := by
  have HS := Lib.hid hs
  have HB := Lib.hid hb
  have HZ := Lib.hid hz
  clear hs hb hz
  go_enter Tryz.func113, Tryz.ntmps113
  go_wp2_with fail
  go_loopw [5, 8] (fun s5 s8 wr => ∃ k : Nat, k ≤ n ∧ s8 = .int .i64 k ∧ (∀ j, j < k → NameS (s j)) ∧ wr = w) (fun _ i _ => n - (intOf i).toNat)
  case atStart => exact ⟨0, Nat.zero_le _, rfl, fun j hj => absurd hj (by omega), rfl⟩
  case round =>
    obtain ⟨k, hk, rfl, hj, rfl⟩ := hrel
    have HJ := Lib.hid hj
    clear hj
    by_cases hlt : k < n
    · obtain ⟨bk, o, rfl, hbk, hc⟩ := HS.out k hlt
      dsimp only at hc
      have HV := Lib.hid (fun (v : Bool) hv (w : World) => names1_any (s k) (HZ.out k hlt) v hv w)
      obtain ⟨x, hx⟩ : ∃ x, s k = x := ⟨_, rfl⟩
      rw [hx] at hc HV
      have HX := Lib.hid hx
      clear hx
      by_cases hx : NameS x
      · have HV1 := Lib.hid (HV.out true ⟨fun _ => hx, fun _ => rfl⟩)
        have HXX := Lib.hid hx
        clear hx
        go_wp2_with (go_at_call 101; refine (HV1.out _).mono ?_; rintro e w' ⟨rfl, rfl⟩)
        exact ⟨⟨k + 1, by omega, by go_num, fun j hj => by
          rcases Nat.lt_succ_iff_lt_or_eq.1 hj with h | rfl
          · exact HJ.out j h
          · rw [HX.out]; exact HXX.out, trivial⟩, by simp [intOf]; omega⟩
      · have HV1 := Lib.hid (HV.out false ⟨fun h => (by cases h), fun h => absurd h hx⟩)
        have hbt : b = true := HB.out.2 ⟨k, hlt, by rw [HX.out]; exact hx⟩
        subst hbt
        clear hx
        go_wp2_with (go_at_call 101; refine (HV1.out _).mono ?_; rintro e w' ⟨rfl, rfl⟩)
        go_ret
        exact ⟨_, rfl, by simp, rfl⟩
    · obtain rfl : k = n := by omega
      have hbf : b = false := bF HB.out (fun ⟨i, hi, hn⟩ => hn (HJ.out i hi))
      subst hbf
      go_wp2
      go_ret
      exact ⟨_, rfl, by simp, rfl⟩
theorem containsBad_any (A : Option Addr) (c n : Nat) (s : Nat → ByteArray) (w : World) (hl : n ≤ 1048576) (hz : ∀ i, i < n → (s i).size ≤ 9223372036854775807) (hs : Sl w w.heap.size A n (fun i => .string (s i))) (b : Bool) (hb : b = true ↔ ∃ i, i < n ∧ ¬ NameS (s i)) :
    Calls Tryz.prog 86 #[.slice A n c, .func (.func 101) #[] #[]] w fun e w' => e = .returned (.bool b) ∧ w' = w := by
  have HI := Lib.hid (indexBad_any A c n s w hl hz hs b hb)
  clear hs hb hz
  go_enter Tryz.func86, Tryz.ntmps86
  go_wp2_with (go_at_call 113; refine HI.out.mono ?_; rintro e w' ⟨i, rfl, hi, rfl⟩)
  go_ret
  subst hi
  exact ⟨rfl, rfl⟩
def NmOut (p : ByteArray) (w : World) (e : Ending) (w' : World) : Prop :=
  Below w.heap.size w w' ∧ ((pathT p = none ∧ e = .returned (.tuple #[.slice none 0 0, .bool false])) ∨ (∃ (N : List ByteArray) (A : Option Addr) (c : Nat), pathT p = some N ∧ e = .returned (.tuple #[.slice A N.length c, .bool true]) ∧ N.length ≤ c ∧ Sl w' w'.heap.size A N.length (fun i => .string (N.getD i ⟨#[]⟩))))
theorem splitB_small (c : UInt8) : ∀ (l : List UInt8) (p : List UInt8), p ∈ splitB c l → p.length ≤ l.length
  | [], p, h => by
    simp [splitB] at h
    subst h
    simp
  | x :: r, p, h => by
    have ih := splitB_small c r
    obtain ⟨a, q, hs⟩ : ∃ a q, splitB c r = a :: q := by
      cases hs : splitB c r with
      | nil => exact absurd hs (splitB_ne _ _)
      | cons a q => exact ⟨a, q, rfl⟩
    rw [hs] at ih
    by_cases hx : x = c
    · subst hx
      rw [splitB_hit, hs] at h
      rcases List.mem_cons.1 h with rfl | h
      · simp
      · have := ih p h
        simp; omega
    · rw [splitB_miss hx hs] at h
      rcases List.mem_cons.1 h with rfl | h
      · have := ih a List.mem_cons_self
        simp; omega
      · have := ih p (List.mem_cons_of_mem _ h)
        simp; omega
theorem piecesT_small {c : UInt8} {s x : ByteArray} (h : x ∈ piecesT c s) : x.size ≤ s.size := by
  unfold piecesT at h
  obtain ⟨l, hl, rfl⟩ := List.mem_map.1 h
  have := splitB_small c _ l hl
  show l.toArray.size ≤ s.data.size
  rw [List.size_toArray]
  simpa using this
theorem sl_strs (w : World) (L : List ByteArray) (e : Nat) : Sl (w.alloc (.cells (L.map Value.string).toArray e)) (w.alloc (.cells (L.map Value.string).toArray e)).heap.size (some ⟨w.heap.size, 0, none⟩) L.length (fun i => .string (L.getD i ⟨#[]⟩)) := fun i hi => by
  refine ⟨w.heap.size, 0, rfl, by rw [World.size_alloc]; omega, ?_⟩
  have hr := Row.new w e (L.map Value.string).toArray
  rw [Nat.zero_add]
  refine (hr.cell i).trans ?_
  simp [hi]
set_option maxHeartbeats 4000000 in
theorem namesOf_any {w : World} {p : ByteArray} (hp : p.size ≤ 1048576) (hm : MaxL w) : Calls Tryz.prog 65 #[.string p] w (NmOut p w) := by
  obtain ⟨m, hm⟩ := hm
  have hsp := Tryz.strings_Split p ⟨#[47]⟩ m w (by omega) hm (Nat.le_refl 1)
  rw [piecesT_lib, piecesT_lib_len] at hsp
  have hsmall := fun x (h : x ∈ piecesT 47 p) => piecesT_small h
  have hlen : (piecesT 47 p).length ≤ 1048577 := by
    rw [piecesT_len]
    have := splitB_len (c := 47) p.data.toList
    have h2 : p.data.toList.length = p.size := rfl
    omega
  have hy := pathT_yes (p := p)
  have hno := pathT_no (p := p)
  have hsl := sl_strs w (piecesT 47 p) 9
  have hbl := (Below.refl w.heap.size w).alloc (Nat.le_refl _) (.cells ((piecesT 47 p).map Value.string).toArray 9)
  obtain ⟨N, hN⟩ : ∃ N, piecesT 47 p = N := ⟨_, rfl⟩
  rw [hN] at hsp hsmall hlen hy hno hsl hbl
  clear hN hm
  generalize w.alloc (.cells (N.map Value.string).toArray 9) = W1 at *
  have HSP := Lib.hid hsp
  have HBL := Lib.hid hbl
  have HSL := Lib.hid hsl
  have HY := Lib.hid hy
  have HNO := Lib.hid hno
  have HSM := Lib.hid (show ∀ i, i < N.length → (N.getD i ⟨#[]⟩).size ≤ 9223372036854775807 from fun i hi => by
    have := hsmall N[i] (List.getElem_mem hi)
    rw [List.getD_eq_getElem?_getD, List.getElem?_eq_getElem hi]
    show N[i].size ≤ _
    omega)
  obtain ⟨L, hL⟩ : ∃ L, N.length = L := ⟨_, rfl⟩
  have HL := Lib.hid hL
  rw [hL] at HSP HSL HSM hlen
  clear hsp hbl hsl hy hno hsmall hL
  by_cases h4 : L ≤ 4
  · have t4 : decide ((L : Int) > 4) = false := by simp; omega
    have t4' : decide ((4 : Int) < (L : Int)) = false := by simp; omega
    by_cases hb : ∃ i, i < L ∧ ¬ NameS (N.getD i ⟨#[]⟩)
    · have HC := Lib.hid (containsBad_any (some ⟨w.heap.size, 0, none⟩) L L (fun i => N.getD i ⟨#[]⟩) W1 (by omega) HSM.out HSL.out true ⟨fun _ => hb, fun _ => rfl⟩)
      have hnone : pathT p = none := HNO.out (fun q => by
        obtain ⟨i, hi, h⟩ := hb
        have hi' : i < N.length := by rw [HL.out]; exact hi
        refine h (q.2 _ ?_)
        rw [List.getD_eq_getElem?_getD, List.getElem?_eq_getElem hi']
        exact List.getElem_mem hi')
      clear hb
      go_enter Tryz.func65, Tryz.ntmps65
      go_wp2_with (first
        | (go_at_call 100; refine HSP.out.mono ?_; rintro e w' ⟨rfl, hw'⟩; rw [hw']; clear hw' w')
        | (go_at_call 86; refine HC.out.mono ?_; rintro e w' ⟨rfl, hw'⟩; rw [hw']; clear hw' w'))
      go_ret2
      exact ⟨HBL.out, .inl ⟨hnone, rfl⟩⟩
    · have HC := Lib.hid (containsBad_any (some ⟨w.heap.size, 0, none⟩) L L (fun i => N.getD i ⟨#[]⟩) W1 (by omega) HSM.out HSL.out false ⟨fun h => (by cases h), fun h => absurd h hb⟩)
      have hsome : pathT p = some N := HY.out (by rw [HL.out]; exact h4) (fun x hx => by
        obtain ⟨i, hi, rfl⟩ := List.getElem_of_mem hx
        refine Classical.byContradiction fun h => hb ⟨i, by rw [← HL.out]; exact hi, ?_⟩
        rw [List.getD_eq_getElem?_getD, List.getElem?_eq_getElem hi]
        exact h)
      clear hb
      go_enter Tryz.func65, Tryz.ntmps65
      go_wp2_with (first
        | (go_at_call 100; refine HSP.out.mono ?_; rintro e w' ⟨rfl, hw'⟩; rw [hw']; clear hw' w')
        | (go_at_call 86; refine HC.out.mono ?_; rintro e w' ⟨rfl, hw'⟩; rw [hw']; clear hw' w'))
      go_ret2
      have hLL := HL.out
      subst hLL
      exact ⟨HBL.out, .inr ⟨N, _, _, hsome, rfl, Nat.le_refl _, HSL.out⟩⟩
  · have t4 : decide ((L : Int) > 4) = true := by simp; omega
    have t4' : decide ((4 : Int) < (L : Int)) = true := by simp; omega
    have hnone : pathT p = none := HNO.out (fun q => h4 (by rw [← HL.out]; exact q.1))
    go_enter Tryz.func65, Tryz.ntmps65
    go_wp2_with (go_at_call 100; refine HSP.out.mono ?_; rintro e w' ⟨rfl, hw'⟩; rw [hw']; clear hw' w')
    go_ret2
    exact ⟨HBL.out, .inl ⟨hnone, rfl⟩⟩
theorem access_shut {w : World} {A : Option Addr} {n c : Nat} {s : Nat → ByteArray} (hm : n ≤ 1048576) (hs : Sl w w.heap.size A n (fun i => .string (s i))) :
    Calls Tryz.prog 48 #[.slice A n c, .bool false] w fun e w' => e = .returned (.tuple #[.pointer none, .int .i64 1]) ∧ w' = w := by
  have hb : ∃ b : Bool, b = true ↔ 4 ≤ n ∧ n ≤ 128 ∧ ∀ i, i < n → (s i).size = 32 := by
    open Classical in
    exact ⟨decide _, decide_eq_true_iff⟩
  obtain ⟨b, hb⟩ := hb
  have HI := Lib.hid (implIsTree_any A n c s hm hs b hb)
  clear hb hs
  cases b with
  | true =>
    go_enter Tryz.func48, Tryz.ntmps48
    go_wp2_with (go_at_call 36; refine HI.out.mono ?_; rintro e w' ⟨rfl, hw'⟩; rw [hw']; clear hw' w')
    go_ret2
    exact ⟨rfl, rfl⟩
  | false =>
    go_enter Tryz.func48, Tryz.ntmps48
    go_wp2_with (go_at_call 36; refine HI.out.mono ?_; rintro e w' ⟨rfl, hw'⟩; rw [hw']; clear hw' w')
    go_ret2
    exact ⟨rfl, rfl⟩
def OpOut (n : Nat) (s : Nat → ByteArray) (p : ByteArray) (w : World) (e : Ending) (w' : World) : Prop :=
  Below w.heap.size w w' ∧ (((askT n s p).1 ≠ 0 ∧ e = .returned (.tuple #[.pointer none, .int .i64 0, .string ⟨#[]⟩, .int .i64 0, .int .i64 ((askT n s p).1 : Nat)])) ∨
    ((askT n s p).1 = 0 ∧ ∃ gp gr bl cp, e = .returned (.tuple #[.pointer (some ⟨gp, 0, none⟩), .int .i64 ((askT n s p).2.1 : Nat), .string (askT n s p).2.2, .int .i64 (lookU (fun i => byteAt (s i)) (askT n s p).2.1 (askT n s p).2.2 : Nat), .int .i64 0]) ∧ TreD w' gp gr n w.heap.size bl cp (fun i => byteAt (s i))))
theorem OpOut.bad {n : Nat} {s : Nat → ByteArray} {p : ByteArray} {w w' : World} {code : Nat} (hb : Below w.heap.size w w') (hc : askT n s p = (code, 0, ⟨#[]⟩)) (h0 : code ≠ 0) : OpOut n s p w (.returned (.tuple #[.pointer none, .int .i64 0, .string ⟨#[]⟩, .int .i64 0, .int .i64 (code : Int)])) w' := by
  unfold OpOut
  rw [hc]
  exact ⟨hb, .inl ⟨h0, rfl⟩⟩
theorem OpOut.good {n : Nat} {s : Nat → ByteArray} {p nm : ByteArray} {w w' : World} {d gp gr : Nat} {bl cp : Nat → Nat} (hb : Below w.heap.size w w') (hc : askT n s p = (0, d, nm)) (ht : TreD w' gp gr n w.heap.size bl cp (fun i => byteAt (s i))) :
    OpOut n s p w (.returned (.tuple #[.pointer (some ⟨gp, 0, none⟩), .int .i64 (d : Int), .string nm, .int .i64 (lookU (fun i => byteAt (s i)) d nm : Nat), .int .i64 0])) w' := by
  unfold OpOut
  rw [hc]
  exact ⟨hb, .inr ⟨rfl, gp, gr, bl, cp, rfl, ht⟩⟩
theorem nameS_size {x : ByteArray} (h : NameS x) : x.size ≤ 1048576 := by
  have := h.hi
  omega
set_option maxHeartbeats 8000000 in
theorem openPath_any {w : World} {A : Option Addr} {n c : Nat} {s : Nat → ByteArray} {p : ByteArray} (hm : n ≤ 1048576) (hp : p.size ≤ 1048576) (hs : Sl w w.heap.size A n (fun i => .string (s i))) (hml : MaxL w) :
    Calls Tryz.prog 29 #[.slice A n c, .string p, .bool true] w (OpOut n s p w) := by
  have HNM := Lib.hid (namesOf_any hp hml)
  have HS := Lib.hid hs
  clear hs hml
  cases hpt : pathT p with
  | none =>
    have ha := askT_none (n := n) (s := s) hpt
    have HN1 := Lib.hid (HNM.out.mono (R' := fun e w' => e = .returned (.tuple #[.slice none 0 0, .bool false]) ∧ Below w.heap.size w w') (fun e w' h => by
      obtain ⟨hb, ⟨_, h⟩ | ⟨N, _, _, h, _⟩⟩ := h
      · exact ⟨h, hb⟩
      · rw [hpt] at h; cases h))
    have HA := Lib.hid ha
    clear ha hpt
    go_enter Tryz.func29, Tryz.ntmps29
    go_upto_region 2 with (go_at_call 65; refine HN1.out.mono ?_; rintro e w1 ⟨rfl, hb1⟩)
    have HAC := Lib.hid (access_shut (c := c) hm ((HS.out.below hb1).more hb1.size))
    have HB1 := Lib.hid hb1
    clear hb1
    go_wp2_with (go_at_call 48; refine HAC.out.mono ?_; rintro e w' ⟨rfl, hw'⟩; rw [hw']; clear hw' w')
    exact bodyPost_ret (v := .tuple #[.pointer none, .int .i64 0, .string ⟨#[]⟩, .int .i64 0, .int .i64 1]) (by simp [results, Tryz.results29, go_sem]) rfl (OpOut.bad (code := 1) HB1.out HA.out (by decide))
  | some N =>
    obtain ⟨_, hN4, hN0, hNN⟩ := pathT_some hpt
    have HN1 := Lib.hid (HNM.out.mono (R' := fun e w' => ∃ (B : Option Addr) (d : Nat), e = .returned (.tuple #[.slice B N.length d, .bool true]) ∧ N.length ≤ d ∧ Sl w' w'.heap.size B N.length (fun i => .string (N.getD i ⟨#[]⟩)) ∧ Below w.heap.size w w') (fun e w' h => by
      obtain ⟨hb, ⟨h, _⟩ | ⟨N', B, d, h, h2, h3, h4⟩⟩ := h
      · rw [hpt] at h; cases h
      · rw [hpt] at h
        injection h with h
        subst h
        exact ⟨B, d, h2, h3, h4, hb⟩))
    have hac := askT_code (n := n) (s := s) hpt
    have haf := askT_fold (n := n) (s := s) hpt
    have hak := askT_ok (n := n) (s := s) hpt
    obtain ⟨R, hR⟩ : ∃ R, askT n s p = R := ⟨_, rfl⟩
    rw [hR] at hac haf hak
    have HRR := Lib.hid hR
    have hz := tCode_zero (n := n) (s := s)
    have hcl := tCode_le n s
    have HAA := Lib.hid (fun (W : World) (B : Option Addr) (hW : Sl W W.heap.size B n (fun i => .string (s i))) => access_any (c := c) hm hW)
    obtain ⟨code, hcode⟩ : ∃ k, tCode n s = k := ⟨_, rfl⟩
    rw [hcode] at hac haf hak hz hcl HAA
    obtain ⟨u, hu⟩ : ∃ u : Nat → Nat → UInt8, (fun i => byteAt (s i)) = u := ⟨_, rfl⟩
    rw [hu] at haf hak hz HAA
    have HU := Lib.hid hu
    obtain ⟨L, hL⟩ : ∃ L, N.length = L := ⟨_, rfl⟩
    rw [hL] at HN1 hN4 hN0
    by_cases h0 : code = 0
    · subst h0
      obtain ⟨⟨h4, hn, _⟩, hwk⟩ := hz rfl
      have hdd := dd_root (u := u) (by omega) hn hwk
      have HAK := Lib.hid (fun (W : World) (B : Option Addr) (hW : Sl W W.heap.size B n (fun i => .string (s i))) => (HAA.out W B hW).mono (R' := fun e w' => ∃ gp gr bl cp, e = .returned (.tuple #[.pointer (some ⟨gp, 0, none⟩), .int .i64 0]) ∧ TreD w' gp gr n W.heap.size bl cp u ∧ Below W.heap.size W w') (fun e w' h => by
        obtain ⟨hb, ⟨h, _⟩ | ⟨_, gp, gr, bl, cp, h1, h2⟩⟩ := h
        · exact absurd rfl h
        · exact ⟨gp, gr, bl, cp, h1, h2, hb⟩))
      have HAF := Lib.hid (haf rfl)
      have HAO := Lib.hid (hak rfl)
      have HFD := Lib.hid (tFold_dd (u := u) N.dropLast hdd)
      have HNN := Lib.hid (show ∀ x ∈ N.dropLast, x.size ≤ 1048576 from fun x hx => nameS_size (hNN x (List.dropLast_subset _ hx)))
      have hlast : N.getLastD ⟨#[]⟩ = N.getD (L - 1) ⟨#[]⟩ := by
        rw [List.getLastD_eq_getLast?, List.getLast?_eq_getElem?, List.getD_eq_getElem?_getD, hL]
      have hlz : (N.getLastD ⟨#[]⟩).size ≤ 1048576 := by
        refine nameS_size (hNN _ ?_)
        have hne : N ≠ [] := by rintro rfl; simp at hL; omega
        rw [List.getLastD_eq_getLast?, List.getLast?_eq_some_getLast hne]
        exact List.getLast_mem hne
      have hdl : L - 1 = N.dropLast.length := by rw [List.length_dropLast, hL]
      have HDG := Lib.hid (show ∀ i, i < L - 1 → N.getD i ⟨#[]⟩ = N.dropLast.getD i ⟨#[]⟩ from fun i hi => by
        rw [List.getD_eq_getElem?_getD, List.getD_eq_getElem?_getD, List.getElem?_dropLast, if_pos (by omega)])
      obtain ⟨F, hF⟩ : ∃ F, tFold u N.dropLast 0 = F := ⟨_, rfl⟩
      have hFl : F.2 ≤ 6 := by rw [← hF]; exact tFold_le _ _
      rw [hF] at HAF HAO HFD
      have HFO := Lib.hid (fun (W : World) (gp gr B c2 : Nat) (bl cp : Nat → Nat) (B2 : Option Addr) (ht : TreD W gp gr n B bl cp u) (hsl : Sl W W.heap.size B2 (L - 1) (fun i => .string (N.dropLast.getD i ⟨#[]⟩))) => folder_any (c := c2) ht (by omega) hn hdd hdl (by omega) HNN.out hsl)
      rw [hF] at HFO
      obtain ⟨nm, hnm⟩ : ∃ x, N.getLastD ⟨#[]⟩ = x := ⟨_, rfl⟩
      rw [hnm] at hlast hlz HAO
      have HLA := Lib.hid hlast
      obtain ⟨M, hM⟩ : ∃ M, L - 1 = M := ⟨_, rfl⟩
      rw [hM] at HFO HDG HLA
      have hML : M < L := by omega
      have e1 : (L : Int) - 1 = (M : Int) := by omega
      obtain ⟨fd, fc⟩ := F
      dsimp only at HAF HAO HFD HFO hFl
      clear hac haf hak hz HAA hpt hu hcode hR hdd hF hnm hlast hdl hNN hL hwk hM
      go_enter Tryz.func29, Tryz.ntmps29
      go_upto_region 2 with (go_at_call 65; refine HN1.out.mono ?_; rintro e w1 ⟨B, d, rfl, hd, hsl1, hb1⟩)
      have HSL1 := Lib.hid hsl1
      have HB1 := Lib.hid hb1
      have HAC := Lib.hid (HAK.out _ _ ((HS.out.below hb1).more hb1.size))
      clear hsl1 hb1
      go_upto_region 5 with (go_at_call 48; refine HAC.out.mono ?_; rintro e w2 ⟨gp, gr, bl, cp, rfl, ht, hb2⟩)
      have HT := Lib.hid ht
      have HB2 := Lib.hid hb2
      have hsl2 := (HSL1.out.below hb2).more hb2.size
      have HSL2 := Lib.hid hsl2
      have HC := Lib.hid (HFO.out w2 gp gr _ d bl cp B ht ((show Sl w2 w2.heap.size B M (fun i => .string (N.getD i ⟨#[]⟩)) from fun i hi => hsl2 i (by omega)).congr (fun i hi => by rw [HDG.out i hi])))
      obtain ⟨ba, oa, hBA, hbl, hca⟩ := hsl2 M (by omega)
      subst hBA
      dsimp only at hca
      rw [← HLA.out] at hca
      have hMd : M ≤ d := by omega
      have hMi : (M : Int) < (L : Int) := by omega
      clear ht hb2 hsl2 hbl
      by_cases hf : fc = 0
      · subst hf
        have HT3 := Lib.hid (show TreD w2.drew gp gr n w1.heap.size bl cp u from HT.out.below (Below.refl _ _).drew)
        have HLK := Lib.hid (look_any HT3.out hn (HFD.out rfl) hlz)
        have HRA := Lib.hid (HRR.out.trans (HAO.out rfl))
        rw [if_pos rfl] at HC
        go_upto_region 9 with (go_at_call 66; refine HC.out.mono ?_; rintro e w' ⟨rfl, hw'⟩; rw [← hw']; clear hw' w')
        go_region_law (first | (go_simp; go_at_call 72; refine HLK.out.mono ?_; rintro e w' ⟨rfl, hw'⟩; rw [← hw']; clear hw' w'))
        all_goals
          go_wp2_with fail
          have hU := HU.out
          subst hU
          exact bodyPost_ret (v := .tuple #[.pointer (some ⟨gp, 0, none⟩), .int .i64 (fd : Int), .string nm, .int .i64 (lookU (fun i => byteAt (s i)) fd nm : Nat), .int .i64 0]) (by simp [results, Tryz.results29, go_sem]) rfl (OpOut.good (HB1.out.trans (HB2.out.mono HB1.out.size)).drew HRA.out (HT3.out.base HB1.out.size))
      · have HRA := Lib.hid (HRR.out.trans (HAF.out hf))
        rw [if_neg hf] at HC
        have t1 : ((fc : Int) != 0) = true := by simp; omega
        go_wp2_with (go_at_call 66; refine HC.out.mono ?_; rintro e w' ⟨rfl, hw'⟩; rw [← hw']; clear hw' w')
        exact bodyPost_ret (v := .tuple #[.pointer none, .int .i64 0, .string ⟨#[]⟩, .int .i64 0, .int .i64 (fc : Int)]) (by simp [results, Tryz.results29, go_sem]) rfl (OpOut.bad (HB1.out.trans (HB2.out.mono HB1.out.size)) HRA.out hf)
    · have HRA := Lib.hid (HRR.out.trans (hac h0))
      have HAK := Lib.hid (fun (W : World) (B : Option Addr) (hW : Sl W W.heap.size B n (fun i => .string (s i))) => (HAA.out W B hW).mono (R' := fun e w' => e = .returned (.tuple #[.pointer none, .int .i64 (code : Int)]) ∧ Below W.heap.size W w') (fun e w' h => by
        obtain ⟨hb, ⟨_, h⟩ | ⟨h, _⟩⟩ := h
        · exact ⟨h, hb⟩
        · exact absurd h h0))
      have t1 : ((code : Int) != 0) = true := by simp; omega
      clear hac haf hak hz HAA hpt hu hcode hR hNN hL
      go_enter Tryz.func29, Tryz.ntmps29
      go_upto_region 2 with (go_at_call 65; refine HN1.out.mono ?_; rintro e w1 ⟨B, d, rfl, hd, hsl1, hb1⟩)
      have HB1 := Lib.hid hb1
      have HAC := Lib.hid (HAK.out _ _ ((HS.out.below hb1).more hb1.size))
      clear hsl1 hb1
      go_wp2_with (go_at_call 48; refine HAC.out.mono ?_; rintro e w2 ⟨rfl, hb2⟩)
      exact bodyPost_ret (v := .tuple #[.pointer none, .int .i64 0, .string ⟨#[]⟩, .int .i64 0, .int .i64 (code : Int)]) (by simp [results, Tryz.results29, go_sem]) rfl (OpOut.bad (HB1.out.trans (hb2.mono HB1.out.size)) HRA.out h0)
end Go.Proofs.YtiefcgmghkkbmaaGreatDoor
