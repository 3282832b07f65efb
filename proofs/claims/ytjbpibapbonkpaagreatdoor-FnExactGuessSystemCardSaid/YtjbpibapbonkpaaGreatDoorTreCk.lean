/-
  Trees: CheckTree, both sides.
-/
import Derived.Test.YtjbpibapbonkpaaGreatDoorTreAs
namespace Go.Proofs.YtjbpibapbonkpaaGreatDoor
open Go Go.ChangeShapes Go.WideShapes Go.ChangeAt Go.RowKit lib
set_option linter.unusedVariables false
set_option linter.unusedSimpArgs false
set_option maxRecDepth 100000
open Classical in
/-- the problems of a disk -/
noncomputable def ckL (n : Nat) (s : Nat → ByteArray) : List (Nat × Nat) := if 4 ≤ n ∧ n ≤ 128 ∧ ∀ i, i < n → (s i).size = 32 then (tWalk n (fun i => byteAt (s i))).pr else [(2, 0)]
/-- their numbers, one behind another -/
def ckF (P : List (Nat × Nat)) (i : Nat) : Int := (P.flatMap fun p => [(p.1 : Int), (p.2 : Int)]).getD i 0
theorem ckF_len : ∀ P : List (Nat × Nat), (P.flatMap fun p => [(p.1 : Int), (p.2 : Int)]).length = P.length * 2
  | [] => rfl
  | p :: P => by
    rw [List.flatMap_cons, List.length_append, ckF_len P, List.length_cons]
    simp
    omega
theorem ckF_range (P : List (Nat × Nat)) : ((List.range (P.length * 2)).map fun (i : Nat) => Value.int .i64 (ckF P i)) = P.flatMap encTPs := by
  have h1 : P.flatMap encTPs = (P.flatMap fun p => [(p.1 : Int), (p.2 : Int)]).map (Value.int .i64) := by
    rw [List.map_flatMap]
    rfl
  rw [h1, ← ckF_len]
  unfold ckF
  generalize (P.flatMap fun p => [(p.1 : Int), (p.2 : Int)]) = L
  refine List.ext_getElem (by simp) (fun i h2 h3 => ?_)
  simp at h2 h3
  simp [h2]
theorem tWalk_pr {n : Nat} {u : Nat → Nat → UInt8} (hn : n ≤ 128) : (tWalk n u).pr.length ≤ 4000 := by
  unfold tWalk
  split
  · have hsee : (TS0.see 0).sn 0 = true := rfl
    have hmuD : (tDir n u 256 ⟨#[]⟩ 0 4 (TS0.see 0)).mu n ≤ (TS0.see 0).mu n + 8 := (tPre_le (n := n) (u := u) (g := 256) (path := ⟨#[]⟩) (t := 4) hsee 8).2
    have hu0 : (TS0.see 0).uns n ≤ 128 := by have := unsF_le (TS0.see 0).sn n; show unsF _ n ≤ 128; omega
    have h := tMarks_pr (u := u) (S := tDir n u 256 ⟨#[]⟩ 0 4 (TS0.see 0)) n
    generalize tDir n u 256 ⟨#[]⟩ 0 4 (TS0.see 0) = D at *
    have e1 : D.mu n = D.pr.length + 20 * D.uns n := rfl
    have e2 : (TS0.see 0).mu n = 0 + 20 * (TS0.see 0).uns n := rfl
    omega
  · show ([] ++ [_]).length ≤ _
    simp
theorem ckL_le (n : Nat) (s : Nat → ByteArray) : (ckL n s).length ≤ 4000 := by
  unfold ckL
  split
  · exact tWalk_pr (by omega)
  · simp
theorem ckF_one : ([(2, 0)] : List (Nat × Nat)).flatMap encTPs = [.int .i64 2, .int .i64 0] := rfl
theorem own_pair (w : World) (B e : Nat) (x y : Value) (hB : B ≤ w.heap.size) : (w.alloc (.cells #[x, y] e)).ownsRow B e 2 (.slice (some ⟨w.heap.size, 0, none⟩) 1 1) 1 [x, y] :=
  ⟨by simp, .inr ⟨w.heap.size, 1, #[x, y], rfl, hB, heap_alloc_new w _, Nat.le_refl _, by simp [maxLen], by simp, by simp⟩⟩
def CkOut (P : List (Nat × Nat)) (w : World) (e : Ending) (w' : World) : Prop := ∃ A c, e = .returned (.slice A P.length c) ∧ w'.ownsRow w.heap.size 48 2 (.slice A P.length c) P.length (P.flatMap encTPs) ∧ Below w.heap.size w w'
set_option maxHeartbeats 4000000 in
theorem implCheck_any {w : World} {A : Option Addr} {n c : Nat} {s : Nat → ByteArray} (hm : n ≤ 1048576) (hs : Sl w w.heap.size A n (fun i => .string (s i))) :
    Calls Tryz.prog 14 #[.slice A n c] w (CkOut (ckL n s) w) := by
  by_cases hd : 4 ≤ n ∧ n ≤ 128 ∧ ∀ i, i < n → (s i).size = 32
  · have HI := Lib.hid (implIsTree_any A n c s hm hs true ⟨fun _ => hd, fun _ => rfl⟩)
    have HOP := Lib.hid (openTree_any A n c s hd.1 hd.2.1 hs hd.2.2)
    have h4 := hd.1
    have hn := hd.2.1
    have hck : ckL n s = (tWalk n (fun i => byteAt (s i))).pr := by
      unfold ckL
      rw [if_pos hd]
    obtain ⟨u, hu⟩ : ∃ u : Nat → Nat → UInt8, (fun i => byteAt (s i)) = u := ⟨_, rfl⟩
    rw [hu] at hck HOP
    obtain ⟨P, hP⟩ : ∃ P, ckL n s = P := ⟨_, rfl⟩
    rw [hP] at hck ⊢
    have HCK := Lib.hid hck
    clear hd hs hu hP hck
    go_enter Tryz.func14, Tryz.ntmps14
    go_wp2_with (first
      | (go_at_call 21; refine HI.out.mono ?_; rintro e w' ⟨rfl, hw'⟩; rw [hw']; clear hw' w')
      | (go_at_call 22; refine HOP.out.mono ?_; rintro e w2 ⟨gp, gr, bl, cp, rfl, ht, hb2⟩)
      | (go_at_call 23; refine (walk_any ht h4 hn).mono ?_; rintro e w3 ⟨q, m, R, rfl, hw3, hpr, hit, hb3⟩; obtain ⟨A1, c1, A2, c2, r1, r2, r3⟩ := hw3.rows; have k3 := r1.cell 2))
    go_ret
    rw [HCK.out, ← hpr]
    exact ⟨A1, c1, rfl, own_base r2 hb2.size, hb2.trans (hb3.mono hb2.size)⟩
  · have HI := Lib.hid (implIsTree_any A n c s hm hs false ⟨fun h => (by cases h), fun h => absurd h hd⟩)
    have hck : ckL n s = [(2, 0)] := by
      unfold ckL
      rw [if_neg hd]
    rw [hck]
    clear hd hs hck
    go_enter Tryz.func14, Tryz.ntmps14
    go_wp2_with (go_at_call 21; refine HI.out.mono ?_; rintro e w' ⟨rfl, hw'⟩; rw [hw']; clear hw' w')
    go_ret
    exact ⟨_, _, rfl, own_pair w _ _ _ _ (Nat.le_refl _), (Below.refl _ _).alloc (Nat.le_refl _) _⟩
set_option maxHeartbeats 4000000 in
theorem specCheck_any {w : World} {A : Option Addr} {n c : Nat} {s : Nat → ByteArray} (hm : n ≤ 1048576) (hs : Sl w w.heap.size A n (fun i => .string (s i))) :
    Calls Tryz.prog 11 #[.slice A n c] w (CkOut (ckL n s) w) := by
  by_cases hd : 4 ≤ n ∧ n ≤ 128 ∧ ∀ i, i < n → (s i).size = 32
  · have HI := Lib.hid (specDisk_any A n c s hm hs true ⟨fun _ => hd, fun _ => rfl⟩)
    have hok : ∃ ok : Bool, ok = true ↔ tRootP n (fun i => byteAt (s i)) = 0 := by
      open Classical in
      exact ⟨decide _, decide_eq_true_iff⟩
    obtain ⟨ok, hok⟩ := hok
    have HLO := Lib.hid (slook18_any (c := c) (u := fun i => byteAt (s i)) rfl hs hd.1 hd.2.1 hd.2.2 ok hok)
    have hle := ckL_le n s
    have hck : ckL n s = (tWalk n (fun i => byteAt (s i))).pr := by
      unfold ckL
      rw [if_pos hd]
    obtain ⟨T, hT⟩ : ∃ T, tWalk n (fun i => byteAt (s i)) = T := ⟨_, rfl⟩
    rw [hT] at hck HLO
    obtain ⟨P, hP⟩ : ∃ P, ckL n s = P := ⟨_, rfl⟩
    rw [hP] at hck hle ⊢
    have HCK := Lib.hid hck
    obtain ⟨L, hL⟩ : ∃ L, P.length = L := ⟨_, rfl⟩
    have HL := Lib.hid hL
    rw [hL] at hle
    obtain ⟨i0, hi0, hi1, hi2, hi3⟩ := info_parts infoTPs
    have I0 := Lib.hid hi0
    have I1 := Lib.hid hi1
    have I2 := Lib.hid hi2
    have I3 := Lib.hid hi3
    clear hd hs hP hck hok hT hi0 hi1 hi2 hi3 hL
    go_enter Tryz.func11, Tryz.ntmps11
    go_upto_region 4 with (first
      | (go_at_call 17; refine HI.out.mono ?_; rintro e w' ⟨rfl, rfl⟩)
      | (go_at_call 18; refine HLO.out.mono ?_; rintro e w2 ⟨q, gs, R, rfl, hw2, hpr, hit, hb2⟩))
    obtain ⟨A1, c1, A2, c2, cs, r1, r2, r3⟩ := hw2.rows
    have hb3 := (Below.refl w2.heap.size w2).alloc (Nat.le_refl _) (.cells #[] 48)
    have k3 := (hb3.cell (p := ⟨q, 3, none⟩) r1.lt).trans (r1.cell 3)
    have k30 := r1.cell 3
    have e1 : R.pr.length = L := by rw [hpr, ← HCK.out, HL.out]
    rw [e1] at k3 k30 r2
    rw [hpr, ← HCK.out] at r2
    have HB2 := Lib.hid hb2
    have HB3 := Lib.hid hb3
    have hz2 : w.heap.size ≤ w2.heap.size := hb2.size
    have HO := Lib.hid (own_nilE w2 48 2 _ hz2)
    have HS3 := Lib.hid (((own_sl r2).below hb3).congr (g := fun i => .int .i64 (ckF P i)) (fun i hi => by
      rw [← ckF_range P, HL.out]
      simp [hi]))
    have HFL := Lib.hid (show ((List.range (L * 2)).map fun (i : Nat) => Value.int .i64 (ckF P i)) = P.flatMap encTPs from by
      rw [← HL.out]
      exact ckF_range P)
    clear r1 r2 r3 hw2 hpr hit hb2 hb3 e1
    go_wp2_with (at_builtin; refine wpList_appR rfl (.tmp 15) (.tmp 19) 37 rfl w.heap.size 48 i0 (.agg #[.int .i64 0, .int .i64 0]) 2 16 Tryz.underlying37 I0.out I1.out I2.out I3.out rfl (by omega) _ 0 _ (by rfl) HO.out A1 L c1 w2.heap.size (fun i => .int .i64 (ckF P i)) (by rfl) HS3.out (fun _ => rfl) (by simp only [maxLen]; omega) (by omega) (by simp; omega) ?_; intro A7 c7 w7 ho7 hg7 hown7)
    go_ret
    rw [Nat.zero_add, List.nil_append, HFL.out] at ho7
    have hb7 : Below w.heap.size w w7 := (HB2.out.trans (HB3.out.mono hz2)).trans (below_grown hg7 (fun j e => (HO.out.lt j e).1) (by simp; omega))
    have hLL := HL.out
    subst hLL
    exact ⟨A7, c7, rfl, ho7, hb7⟩
  · have HI := Lib.hid (specDisk_any A n c s hm hs false ⟨fun h => (by cases h), fun h => absurd h hd⟩)
    have hck : ckL n s = [(2, 0)] := by
      unfold ckL
      rw [if_neg hd]
    rw [hck]
    clear hd hs hck
    go_enter Tryz.func11, Tryz.ntmps11
    go_wp2_with (go_at_call 17; refine HI.out.mono ?_; rintro e w' ⟨rfl, rfl⟩)
    go_ret
    exact ⟨_, _, rfl, own_pair w _ _ _ _ (Nat.le_refl _), (Below.refl _ _).alloc (Nat.le_refl _) _⟩
end Go.Proofs.YtjbpibapbonkpaaGreatDoor
