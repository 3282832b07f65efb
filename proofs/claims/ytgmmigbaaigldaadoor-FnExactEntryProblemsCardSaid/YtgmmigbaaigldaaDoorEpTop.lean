/-
  Disks of chains: EntryProblems, both sides.
-/
import Derived.Test.YtgmmigbaaigldaaDoorProbTopS
namespace Go.Proofs.YtgmmigbaaigldaaDoor
open Go Go.ChangeShapes Go.WideShapes Go.ChangeAt Go.RowKit lib
set_option linter.unusedVariables false
set_option maxRecDepth 100000
theorem walkN_len {n z t : Nat} {U : Nat → UInt8} (k : Nat) (ht : t ≤ n) : (walkN n z t U k).1.length ≤ n := by
  unfold walkN
  split
  · exact (walkOf_ok _ _ _ _ _).1.len
  · exact Nat.zero_le _
open Classical in
/-- how the opening ends -/
noncomputable def epCode (n : Nat) (s : Nat → ByteArray) (k : Int) : Int := if opens n s then if 0 ≤ k ∧ k < (entsN n : Int) then 0 else 2 else openCode n s
theorem epCode_zero {n : Nat} {s : Nat → ByteArray} {k : Int} (h : epCode n s k = 0) : opens n s ∧ ∃ K : Nat, k = (K : Int) ∧ K < entsN n := by
  unfold epCode at h
  split at h
  · rename_i h1
    split at h
    · rename_i h2
      exact ⟨h1, k.toNat, by omega, by omega⟩
    · cases h
  · have := openCode_ne n s; omega
/-- the problems of an entry of a disk -/
noncomputable def probsOf (n : Nat) (s : Nat → ByteArray) (k : Nat) : List (Nat × Nat) := probsN n (s 0).size (joinU (s 0).size s) k (walkN n (s 0).size (dataN n (s 0).size) (joinU (s 0).size s) k)
/-- a cell of a list of problems -/
def pInt (k : Nat) (l : List (Nat × Nat)) (i : Nat) : Int := match (cells3 k l).getD i undef with
  | .int _ x => x
  | _ => 0
theorem cells3_len (k : Nat) (l : List (Nat × Nat)) : (cells3 k l).length = l.length * 3 := by
  unfold cells3
  induction l with
  | nil => rfl
  | cons a l ih => rw [List.flatMap_cons, List.length_append, ih]; simp; omega
theorem cells3_range (k : Nat) (l : List (Nat × Nat)) : cells3 k l = (List.range (l.length * 3)).map fun (i : Nat) => Value.int .i64 (pInt k l i) := by
  have hall : ∀ v, v ∈ cells3 k l → ∃ x : Int, v = .int .i64 x := by
    intro v hv
    unfold cells3 at hv
    obtain ⟨a, _, ha⟩ := List.mem_flatMap.1 hv
    simp only [List.mem_cons, List.not_mem_nil, or_false] at ha
    rcases ha with rfl | rfl | rfl
    · exact ⟨_, rfl⟩
    · exact ⟨_, rfl⟩
    · exact ⟨_, rfl⟩
  apply List.ext_getElem
  · rw [cells3_len]; simp
  · intro i h1 h2
    obtain ⟨x, hx⟩ := hall _ (List.getElem_mem h1)
    rw [List.getElem_map, List.getElem_range]
    have hg : (cells3 k l).getD i undef = .int .i64 x := by rw [List.getD_eq_getElem?_getD, List.getElem?_eq_getElem h1, hx]; rfl
    unfold pInt
    rw [hg, hx]
theorem wout_cell {B : Nat} {w : World} {Aq : Option Addr} {cq m : Nat} {xs : List Value} {f : Nat → List Nat × Nat × Nat} (h : WOut B w Aq cq m xs f) {i : Nat} (hi : i < m) :
    ∃ gw, gw < w.heap.size ∧ ∃ Aw cw, Aq = some ⟨gw, 0, none⟩ ∧ w.cell? ⟨gw, i * 3, none⟩ = some (.slice Aw (f i).1.length cw) ∧ w.cell? ⟨gw, i * 3 + 1, none⟩ = some (.int .i64 ((f i).2.1 : Int)) ∧ w.cell? ⟨gw, i * 3 + 2, none⟩ = some (.int .i64 ((f i).2.2 : Int)) := by
  obtain ⟨h1, A, c, h2⟩ := h
  obtain ⟨⟨x0, x1, x2⟩, _⟩ := h2 i hi
  have hlen := h1.1
  have hsl := own_sl h1
  have key : ∀ j q, j < 3 → xs[i * 3 + j]? = some q → ∃ g, Aq = some ⟨g, 0, none⟩ ∧ g < w.heap.size ∧ w.cell? ⟨g, i * 3 + j, none⟩ = some q := by
    intro j q hj hq
    obtain ⟨b, o, hA, hb, hc⟩ := hsl (i * 3 + j) (by omega)
    rcases h1.2 with ⟨hv, h0⟩ | ⟨g, cap, cur, hv, _⟩
    · omega
    · injection hv with hv
      rw [hv] at hA
      injection hA with hA
      injection hA with hA1 hA2
      subst hA1 hA2
      refine ⟨_, hv, hb, ?_⟩
      rw [Nat.zero_add] at hc
      rw [hc]
      dsimp only
      rw [List.getD_eq_getElem?_getD, hq]
      rfl
  obtain ⟨g, e0, hg, c0⟩ := key 0 _ (by omega) x0
  obtain ⟨g1, e1, _, c1⟩ := key 1 _ (by omega) x1
  obtain ⟨g2, e2, _, c2⟩ := key 2 _ (by omega) x2
  rw [e0] at e1 e2
  injection e1 with e1
  injection e1 with e1
  injection e2 with e2
  injection e2 with e2
  subst e1 e2
  exact ⟨g, hg, _, _, e0, c0, c1, c2⟩
theorem implEp_bad {w : World} {n c : Nat} {A : Option Addr} {s : Nat → ByteArray} (k : Int) (hs : Sl w w.heap.size A n (fun i => .string (s i))) (hsz : ∀ i, i < n → (s i).size ≤ 9223372036854775807) (hn : n ≤ c) (hn2 : n ≤ 9223372036854775807) (hc : epCode n s k ≠ 0) :
    Calls Tryd.prog 11 #[.slice A n c, .int .i64 k] w fun r w' => r = .returned (.tuple #[.slice none 0 0, .int .i64 (epCode n s k)]) ∧ Below w.heap.size w w' := by
  have HO := Lib.hid (implOpen hs hsz hn hn2)
  by_cases ho : opens n s
  · by_cases hk : 0 ≤ k ∧ k < (entsN n : Int)
    · exact absurd (show epCode n s k = 0 by unfold epCode; rw [if_pos ho, if_pos hk]) hc
    · rw [show epCode n s k = 2 by unfold epCode; rw [if_pos ho, if_neg hk]]
      have HL := Lib.hid ho
      obtain ⟨E, hE⟩ : ∃ E, entsN n = E := ⟨_, rfl⟩
      obtain ⟨f1, f2, f3, f4, f5, f6⟩ := walk_fit ho.1
      rw [hE] at hk f4
      have HEE := Lib.hid hE
      have HW : Hid (∀ W : World, Calls Tryd.prog 36 #[.int .i64 k, .int .i64 0, .int .i64 ((E : Int) - 1)] W fun e w' => e = .returned (.bool false) ∧ w' = W) := Lib.hid (fun W => (within_any _ _ _ _).mono fun e w' h => ⟨by rw [h.1]; congr 2; simp; omega, h.2.symm⟩)
      have e1 : IntKind.i64.wrap ((E : Int) - 1) = (E : Int) - 1 := by rw [IntKind.wrap_i64]; omega
      clear ho hs hsz hE hk f6 hc
      go_enter Tryd.func11, Tryd.ntmps11
      go_wp2_with (first
        | (go_at_call 35; refine HO.out.mono ?_; rintro r w1 ⟨h1, _⟩; obtain ⟨p, rfl, ow⟩ := h1 HL.out; obtain ⟨g, cc, hc, hcap, hb1, hp, hg⟩ := ow; rw [HEE.out] at hc; have c2 := hc.c2)
        | (go_at_call 36; refine (HW.out _).mono ?_; rintro e w' ⟨rfl, rfl⟩))
      go_ret2
      exact ⟨rfl, hb1⟩
  · have hne := openCode_ne n s
    have HL := Lib.hid ho
    rw [show epCode n s k = openCode n s by unfold epCode; rw [if_neg ho]]
    obtain ⟨code, hcode⟩ : ∃ code, openCode n s = code := ⟨_, rfl⟩
    rw [hcode] at hne ⊢
    have HCD := Lib.hid hcode
    clear ho hs hsz hcode hc
    rcases hne with rfl | rfl
    all_goals
      go_enter Tryd.func11, Tryd.ntmps11
      go_wp2_with (go_at_call 35; refine HO.out.mono ?_; rintro r w1 ⟨_, h1⟩; have h2 := h1 HL.out; rw [HCD.out] at h2; obtain ⟨rfl, hb1⟩ := h2)
      go_ret2
      exact ⟨rfl, hb1⟩
set_option maxHeartbeats 1000000 in
theorem implEp_ok {w : World} {n c : Nat} {A : Option Addr} {s : Nat → ByteArray} (k : Nat) (hs : Sl w w.heap.size A n (fun i => .string (s i))) (hsz : ∀ i, i < n → (s i).size ≤ 9223372036854775807) (hn : n ≤ c) (hn2 : n ≤ 9223372036854775807) (ho : opens n s) (hk : k < entsN n) :
    Calls Tryd.prog 11 #[.slice A n c, .int .i64 k] w fun r w' => ∃ A c, r = .returned (.tuple #[.slice A (probsOf n s k).length c, .int .i64 0]) ∧ PRow w.heap.size w' A c k (probsOf n s k) ∧ Below w.heap.size w w' := by
  have HO := Lib.hid (implOpen hs hsz hn hn2)
  obtain ⟨f1, f2, f3, f4, f5, f6⟩ := walk_fit ho.1
  have hf := shape_facts ho.1
  have hwl := walkN_len (z := (s 0).size) (U := joinU (s 0).size s) k f5
  unfold probsOf
  obtain ⟨z, hz⟩ : ∃ z, (s 0).size = z := ⟨_, rfl⟩
  obtain ⟨E, hE⟩ : ∃ E, entsN n = E := ⟨_, rfl⟩
  obtain ⟨U, hU⟩ : ∃ U, joinU z s = U := ⟨_, rfl⟩
  rw [hz, hE] at f6
  rw [hz] at f2 f3 f5 hf hwl ⊢
  rw [hU] at hwl ⊢
  rw [hE] at f4 hk
  have HZ := Lib.hid hz
  have HEE := Lib.hid hE
  have HUU := Lib.hid hU
  have F6 := Lib.hid f6
  have HL := Lib.hid ho
  obtain ⟨WK, hWK⟩ : ∃ WK, walkN n z (dataN n z) U k = WK := ⟨_, rfl⟩
  have HWK := Lib.hid hWK
  rw [hWK] at hwl ⊢
  obtain ⟨l, e, b⟩ := WK
  dsimp only at hwl
  have HW : Hid (∀ W : World, Calls Tryd.prog 36 #[.int .i64 k, .int .i64 0, .int .i64 ((E : Int) - 1)] W fun e w' => e = .returned (.bool true) ∧ w' = W) := Lib.hid (fun W => (within_any _ _ _ _).mono fun e w' h => ⟨by rw [h.1]; congr 2; simp; omega, h.2.symm⟩)
  have e1 : IntKind.i64.wrap ((E : Int) - 1) = (E : Int) - 1 := by rw [IntKind.wrap_i64]; omega
  obtain ⟨PR, hPR⟩ : ∃ PR, probsN n z U k (l, e, b) = PR := ⟨_, rfl⟩
  have HPR := Lib.hid hPR
  rw [hPR]
  have kE : (k : Int) < E := by omega
  clear ho hs hsz hz hE hU hWK f6 hPR
  go_enter Tryd.func11, Tryd.ntmps11
  go_upto_region 7 with (first
    | (go_at_call 35; refine HO.out.mono ?_; rintro r w1 ⟨h1, _⟩; obtain ⟨p, rfl, ow⟩ := h1 HL.out; rw [HZ.out] at ow; obtain ⟨g, cc, hc, hcap, hb1, hp, hg⟩ := ow; rw [HUU.out, HEE.out] at hc; have c2 := hc.c2)
    | (go_at_call 36; refine (HW.out _).mono ?_; rintro e w' ⟨rfl, rfl⟩)
    | (go_at_call 37; refine (implWalks_any hc f1 f2 f3 hcap f4 rfl F6.out).mono ?_; rintro r w2 ⟨rfl, _, hw2, hb2⟩; obtain ⟨Aw, cw, y0, y1, y2, hyi, _⟩ := hw2.cell (i := k) hk; rw [HWK.out] at y0 y1 y2 hyi; dsimp only at y0 y1 y2 hyi))
  obtain ⟨kk, hkk⟩ : ∃ kk, k * 3 = kk := ⟨_, rfl⟩
  rw [hkk] at y0 y1 y2
  have HB2 := Lib.hid (hb1.trans (hb2.mono hb1.size))
  have HC2 := Lib.hid (hc.below hb2)
  have hz2' := HB2.out.size
  clear hc hb1 hb2 hw2
  have hkn : (k : Int) * 3 = (kk : Int) := by rw [← hkk]; simp
  go_wp2_with (go_at_call 38; refine (implProblems_any HC2.out (by omega) (by omega) f3 hcap f4 rfl F6.out k hk l e b (by omega)).mono ?_; rw [HPR.out]; rintro r w4 ⟨A4, c4, rfl, ho4, hb4⟩)
  go_ret2
  exact ⟨A4, c4, rfl, own_base ho4 hz2', HB2.out.trans (hb4.mono hz2')⟩
theorem specEp_bad {w : World} {n c : Nat} {A : Option Addr} {s : Nat → ByteArray} (k : Int) (hs : Sl w w.heap.size A n (fun i => .string (s i))) (hsz : ∀ i, i < n → (s i).size ≤ 9223372036854775807) (hn : n ≤ c) (hn2 : n ≤ 9223372036854775807) (hc : epCode n s k ≠ 0) :
    Calls Tryd.prog 9 #[.slice A n c, .int .i64 k] w fun r w' => r = .returned (.tuple #[.slice none 0 0, .int .i64 (epCode n s k)]) ∧ Below w.heap.size w w' := by
  have HO := Lib.hid (specOpen hs hsz hn hn2)
  by_cases ho : opens n s
  · by_cases hk : 0 ≤ k ∧ k < (entsN n : Int)
    · exact absurd (show epCode n s k = 0 by unfold epCode; rw [if_pos ho, if_pos hk]) hc
    · rw [show epCode n s k = 2 by unfold epCode; rw [if_pos ho, if_neg hk]]
      have HL := Lib.hid ho
      obtain ⟨E, hE⟩ : ∃ E, entsN n = E := ⟨_, rfl⟩
      obtain ⟨f1, f2, f3, f4, f5, f6⟩ := walk_fit ho.1
      rw [hE] at hk f4
      have HEE := Lib.hid hE
      have HW : Hid (∀ W : World, Calls Tryd.prog 32 #[.int .i64 k, .int .i64 0, .int .i64 ((E : Int) - 1)] W fun e w' => e = .returned (.bool false) ∧ w' = W) := Lib.hid (fun W => (l00In_any _ _ _ _).mono fun e w' h => ⟨by rw [h.1]; congr 2; simp; omega, h.2.symm⟩)
      have e1 : IntKind.i64.wrap ((E : Int) - 1) = (E : Int) - 1 := by rw [IntKind.wrap_i64]; omega
      clear ho hs hsz hE hk f6 hc
      go_enter Tryd.func9, Tryd.ntmps9
      go_wp2_with (first
        | (go_at_call 31; refine HO.out.mono ?_; rintro r w1 ⟨h1, _⟩; obtain ⟨p, rfl, ow⟩ := h1 HL.out; obtain ⟨g, cc, hc, hcap, hb1, hp, hg⟩ := ow; rw [HEE.out] at hc; have c2 := hc.c2)
        | (go_at_call 32; refine (HW.out _).mono ?_; rintro e w' ⟨rfl, rfl⟩))
      go_ret2
      exact ⟨rfl, hb1⟩
  · have hne := openCode_ne n s
    have HL := Lib.hid ho
    rw [show epCode n s k = openCode n s by unfold epCode; rw [if_neg ho]]
    obtain ⟨code, hcode⟩ : ∃ code, openCode n s = code := ⟨_, rfl⟩
    rw [hcode] at hne ⊢
    have HCD := Lib.hid hcode
    clear ho hs hsz hcode hc
    rcases hne with rfl | rfl
    all_goals
      go_enter Tryd.func9, Tryd.ntmps9
      go_wp2_with (go_at_call 31; refine HO.out.mono ?_; rintro r w1 ⟨_, h1⟩; have h2 := h1 HL.out; rw [HCD.out] at h2; obtain ⟨rfl, hb1⟩ := h2)
      go_ret2
      exact ⟨rfl, hb1⟩
set_option maxHeartbeats 1000000 in
theorem specEp_ok {w : World} {n c : Nat} {A : Option Addr} {s : Nat → ByteArray} (k : Nat) (hs : Sl w w.heap.size A n (fun i => .string (s i))) (hsz : ∀ i, i < n → (s i).size ≤ 9223372036854775807) (hn : n ≤ c) (hn2 : n ≤ 9223372036854775807) (ho : opens n s) (hk : k < entsN n) :
    Calls Tryd.prog 9 #[.slice A n c, .int .i64 k] w fun r w' => ∃ A c, r = .returned (.tuple #[.slice A (probsOf n s k).length c, .int .i64 0]) ∧ PRow w.heap.size w' A c k (probsOf n s k) ∧ Below w.heap.size w w' := by
  have HO := Lib.hid (specOpen hs hsz hn hn2)
  obtain ⟨f1, f2, f3, f4, f5, f6⟩ := walk_fit ho.1
  have hf := shape_facts ho.1
  have hwl := walkN_len (z := (s 0).size) (U := joinU (s 0).size s) k f5
  unfold probsOf
  obtain ⟨z, hz⟩ : ∃ z, (s 0).size = z := ⟨_, rfl⟩
  obtain ⟨E, hE⟩ : ∃ E, entsN n = E := ⟨_, rfl⟩
  obtain ⟨U, hU⟩ : ∃ U, joinU z s = U := ⟨_, rfl⟩
  rw [hz, hE] at f6
  rw [hz] at f2 f3 f5 hf hwl ⊢
  rw [hU] at hwl ⊢
  rw [hE] at f4 hk
  have HZ := Lib.hid hz
  have HEE := Lib.hid hE
  have HUU := Lib.hid hU
  have F6 := Lib.hid f6
  have HL := Lib.hid ho
  obtain ⟨WK, hWK⟩ : ∃ WK, walkN n z (dataN n z) U k = WK := ⟨_, rfl⟩
  have HWK := Lib.hid hWK
  rw [hWK] at hwl ⊢
  obtain ⟨l, e, b⟩ := WK
  dsimp only at hwl
  have HW : Hid (∀ W : World, Calls Tryd.prog 32 #[.int .i64 k, .int .i64 0, .int .i64 ((E : Int) - 1)] W fun e w' => e = .returned (.bool true) ∧ w' = W) := Lib.hid (fun W => (l00In_any _ _ _ _).mono fun e w' h => ⟨by rw [h.1]; congr 2; simp; omega, h.2.symm⟩)
  have e1 : IntKind.i64.wrap ((E : Int) - 1) = (E : Int) - 1 := by rw [IntKind.wrap_i64]; omega
  obtain ⟨PR, hPR⟩ : ∃ PR, probsN n z U k (l, e, b) = PR := ⟨_, rfl⟩
  have HPR := Lib.hid hPR
  rw [hPR]
  have kE : (k : Int) < E := by omega
  clear ho hs hsz hz hE hU hWK f6 hPR
  go_enter Tryd.func9, Tryd.ntmps9
  go_upto_region 7 with (first
    | (go_at_call 31; refine HO.out.mono ?_; rintro r w1 ⟨h1, _⟩; obtain ⟨p, rfl, ow⟩ := h1 HL.out; rw [HZ.out] at ow; obtain ⟨g, cc, hc, hcap, hb1, hp, hg⟩ := ow; rw [HUU.out, HEE.out] at hc; have c2 := hc.c2)
    | (go_at_call 32; refine (HW.out _).mono ?_; rintro e w' ⟨rfl, rfl⟩)
    | (go_at_call 33; refine (specWalks_any hc f1 f2 f3 hcap f4 rfl F6.out).mono ?_; rintro r w2 ⟨Aq, cq, xs, rfl, _, hw2, hb2⟩; obtain ⟨gw, hgw, Aw, cw, rfl, y0, y1, y2⟩ := wout_cell hw2 (i := k) hk; rw [HWK.out] at y0 y1 y2; dsimp only at y0 y1 y2))
  obtain ⟨kk, hkk⟩ : ∃ kk, k * 3 = kk := ⟨_, rfl⟩
  rw [hkk] at y0 y1 y2
  have HB2 := Lib.hid (hb1.trans (hb2.mono hb1.size))
  have HC2 := Lib.hid (hc.below hb2)
  have hz2' := HB2.out.size
  clear hc hb1 hb2 hw2
  have hkn : (k : Int) * 3 = (kk : Int) := by rw [← hkk]; simp
  go_wp2_with (go_at_call 34; refine (specProblems_any HC2.out (by omega) (by omega) f3 hcap f4 rfl F6.out k hk l e b (by omega) hgw y0 y1 y2).mono ?_; rw [HPR.out]; rintro r w4 ⟨A4, c4, rfl, ho4, hb4⟩)
  go_ret2
  exact ⟨A4, c4, rfl, own_base ho4 hz2', HB2.out.trans (hb4.mono hz2')⟩
end Go.Proofs.YtgmmigbaaigldaaDoor
