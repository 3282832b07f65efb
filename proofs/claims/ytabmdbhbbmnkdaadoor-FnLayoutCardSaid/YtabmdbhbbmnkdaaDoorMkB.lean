/-
  Marks: the reference's list of marks in order (l07Put).
-/
import Derived.Test.YtabmdbhbbmnkdaaDoorMkA
import Derived.Deep.CutBlock
import Derived.Deep.DeepCutAuto
namespace Go.Proofs.YtabmdbhbbmnkdaaDoor
open Go Go.ChangeShapes Go.WideShapes Go.ChangeAt Go.RowKit Go.Joins lib
set_option linter.unusedVariables false
set_option linter.unusedSimpArgs false
set_option maxRecDepth 100000
structure Mk where
  kd : Nat
  at' : Nat
  bd : Nat
deriving DecidableEq
def Mk.nth (m : Mk) (i : Nat) : Nat := if i = 0 then m.kd else if i = 1 then m.at' else m.bd
def mkV (m : Mk) : List Value := [.int .i64 (m.kd : Int), .int .i64 (m.at' : Int), .int .i64 (m.bd : Int)]
def mksV (L : List Mk) : List Value := L.flatMap mkV
def mkC (L : List Mk) (j : Nat) : Value := .int .i64 ((L.getD (j / 3) ⟨0, 0, 0⟩).nth (j % 3) : Nat)
theorem mksV_len (L : List Mk) : (mksV L).length = L.length * 3 := by
  unfold mksV
  induction L with
  | nil => rfl
  | cons x r ih => rw [List.flatMap_cons, List.length_append, ih, List.length_cons]; simp [mkV]; omega
theorem mkC_cons (x : Mk) (r : List Mk) (j : Nat) : mkC (x :: r) (3 + j) = mkC r j := by
  unfold mkC
  rw [show (3 + j) / 3 = j / 3 + 1 by omega, show (3 + j) % 3 = j % 3 by omega, List.getD_cons_succ]
theorem mks_range : ∀ L : List Mk, (List.range (L.length * 3)).map (mkC L) = mksV L
  | [] => rfl
  | x :: r => by
    rw [List.length_cons, show (r.length + 1) * 3 = 3 + r.length * 3 by omega, List.range_add, List.map_append, List.map_map]
    have h : (mkC (x :: r) ∘ fun y => 3 + y) = mkC r := by
      funext j
      exact mkC_cons x r j
    rw [h, mks_range r]
    rfl
theorem mks_take (L : List Mk) (i : Nat) (h : i ≤ L.length) : (List.range (i * 3)).map (mkC L) = mksV (L.take i) := by
  rw [← mks_range, List.length_take, Nat.min_eq_left h]
  apply List.map_congr_left
  intro j hj
  rw [List.mem_range] at hj
  unfold mkC
  have hj3 : j / 3 < i := by omega
  rw [List.getD_eq_getElem?_getD, List.getD_eq_getElem?_getD, List.getElem?_take, if_pos hj3]
theorem mks_drop (L : List Mk) (i : Nat) : (List.range ((L.length - i) * 3)).map (fun j => mkC L (i * 3 + j)) = mksV (L.drop i) := by
  rw [← mks_range, List.length_drop]
  apply List.map_congr_left
  intro j hj
  unfold mkC
  rw [List.getD_eq_getElem?_getD, List.getD_eq_getElem?_getD, List.getElem?_drop, show (i * 3 + j) / 3 = i + j / 3 by omega, show (i * 3 + j) % 3 = j % 3 by omega]
theorem mksV_append (a b : List Mk) : mksV (a ++ b) = mksV a ++ mksV b := List.flatMap_append
def putM (m : Mk) : List Mk → List Mk
  | [] => [m]
  | y :: r => if y.at' < m.at' then y :: putM m r else m :: y :: r
theorem putM_len (m : Mk) : ∀ L : List Mk, (putM m L).length = L.length + 1
  | [] => rfl
  | y :: r => by
    rw [putM]
    split
    · rw [List.length_cons, putM_len m r, List.length_cons]
    · simp
theorem putM_at (m : Mk) : ∀ (L : List Mk) (i : Nat), i ≤ L.length → (∀ j, j < i → (L.getD j ⟨0, 0, 0⟩).at' < m.at') → (i = L.length ∨ ¬ (L.getD i ⟨0, 0, 0⟩).at' < m.at') → putM m L = L.take i ++ m :: L.drop i
  | [], i, h, _, _ => by
    obtain rfl : i = 0 := by simpa using h
    rfl
  | y :: r, 0, h, _, h2 => by
    rw [putM]
    have : ¬ y.at' < m.at' := by
      rcases h2 with h2 | h2
      · simp at h2
      · simpa using h2
    rw [if_neg this]
    rfl
  | y :: r, i + 1, h, h1, h2 => by
    rw [putM]
    have h0 := h1 0 (by omega)
    rw [List.getD_cons_zero] at h0
    rw [if_pos h0, putM_at m r i (by rw [List.length_cons] at h; omega) (fun j hj => by
      have := h1 (j + 1) (by omega)
      rwa [List.getD_cons_succ] at this) (by
      rw [List.getD_cons_succ, List.length_cons] at h2
      rcases h2 with h2 | h2
      · exact .inl (by omega)
      · exact .inr h2)]
    rfl
theorem put_mk {L : List Mk} {i : Nat} {x : Mk} (h : i ≤ L.length) (hp : putM x L = L.take i ++ x :: L.drop i) :
    (((List.range (i * 3)).map (mkC L) ++ mkV x) ++ (List.range ((L.length - i) * 3)).map fun (j : Nat) => mkC L (i * 3 + j)) = mksV (putM x L) := by
  rw [mks_take L i h, mks_drop, hp, mksV_append]
  unfold mksV
  rw [List.flatMap_cons, List.append_assoc]
def MkR (B : Nat) (w : World) (A : Option Addr) (c : Nat) (L : List Mk) : Prop := w.ownsRow B 46 3 (.slice A L.length c) L.length (mksV L)
theorem MkR.sl {B : Nat} {w : World} {A : Option Addr} {c : Nat} {L : List Mk} (h : MkR B w A c L) : Sl w w.heap.size A (L.length * 3) (mkC L) := by
  refine (own_sl h).congr fun i hi => ?_
  rw [← mks_range, List.getD_eq_getElem?_getD, List.getElem?_map, List.getElem?_range hi]
  rfl
theorem MkR.below {B : Nat} {w w' : World} {A : Option Addr} {c : Nat} {L : List Mk} (h : MkR B w A c L) (hb : Below w.heap.size w w') : MkR B w' A c L := own_below h hb
theorem infoMk : (Tryd.prog.info? 46).map (fun i => (i.zero, i.size, i.bytes)) = some (some (.agg #[.int .i64 0, .int .i64 0, .int .i64 0]), 3, 24) := by kernel_rfl
theorem mk_cap {w : World} {B e n c k : Nat} {A : Option Addr} {xs : List Value} (h : w.ownsRow B e k (.slice A n c) n xs) : n ≤ c := by
  rcases h.2 with ⟨hv, h0⟩ | ⟨g, cap, cur, hv, hb, hg, hnc, _⟩
  · omega
  · injection hv with _ _ h3
    omega
set_option maxHeartbeats 4000000 in
theorem l07Put_any {w : World} {B ga c' : Nat} {L : List Mk} (m : Mk) (h : MkR B w (some ⟨ga, 0, none⟩) c' L) (hl : L.length ≤ 1048576) :
    Calls Tryd.prog 68 #[.slice (some ⟨ga, 0, none⟩) L.length c', .agg #[.int .i64 (m.kd : Int), .int .i64 (m.at' : Int), .int .i64 (m.bd : Int)]] w fun r w' => ∃ g2 c2, r = .returned (.slice (some ⟨g2, 0, none⟩) (putM m L).length c2) ∧ MkR w.heap.size w' (some ⟨g2, 0, none⟩) c2 (putM m L) ∧ Below w.heap.size w w' := by
  obtain ⟨i0, hi0, hi1, hi2, hi3⟩ := info_parts infoMk
  have hsl0 := h.sl
  have hcap := mk_cap h
  have HSLW := Lib.hid hsl0
  have halE := (Below.refl w.heap.size w).alloc (Nat.le_refl _) (.cells #[.int .i64 (m.kd : Int), .int .i64 (m.at' : Int), .int .i64 (m.bd : Int)] 46)
  have HO := Lib.hid (h.below halE)
  have HB0 := Lib.hid halE
  have HR := Lib.hid (Rw.new w 46 #[.int .i64 (m.kd : Int), .int .i64 (m.at' : Int), .int .i64 (m.bd : Int)])
  have HSL0 := Lib.hid (hsl0.alloc (Nat.le_refl _) (.cells #[.int .i64 (m.kd : Int), .int .i64 (m.at' : Int), .int .i64 (m.bd : Int)] 46))
  clear h halE hsl0
  obtain ⟨n, hn⟩ : ∃ n, L.length = n := ⟨_, rfl⟩
  have HN := Lib.hid hn
  rw [hn] at HSL0 HSLW hl hcap
  rw [hn]
  clear hn
  go_enter Tryd.func68, Tryd.ntmps68
  go_upto_region 1 with fail
  generalize hW1 : w.alloc (.cells #[.int .i64 (m.kd : Int), .int .i64 (m.at' : Int), .int .i64 (m.bd : Int)] 46) = W1 at *
  clear hW1
  have hz1 := HB0.out.size
  have hwq : w.heap.size < W1.heap.size := HR.out.lt
  go_wp2_with fail
  go_loopw [5] (fun s5 wr => ∃ i q : Nat, i ≤ n ∧ s5 = .int .i64 i ∧ (∀ j, j < i → (L.getD j ⟨0, 0, 0⟩).at' < m.at') ∧ wr = W1.drewN q) (fun s _ => n - (intOf s).toNat)
  case atStart => exact ⟨0, 0, by omega, rfl, fun j hj => by omega, rfl⟩
  case round =>
    obtain ⟨i, q, hi, rfl, hlts, hwr⟩ := hrel
    have HLTS := Lib.hid hlts
    have HWR := Lib.hid hwr
    clear hlts hwr
    have HRX := Lib.hid (show Rw wr w.heap.size 46 #[.int .i64 (m.kd : Int), .int .i64 (m.at' : Int), .int .i64 (m.bd : Int)] by rw [HWR.out]; exact HR.out)
    have r1 := HRX.out.cell 1
    by_cases hlt : i < n
    · have hil' : (i : Int) < (n : Int) := by omega
      have hs' : Sl wr w.heap.size (some ⟨ga, 0, none⟩) (n * 3) (mkC L) := by rw [HWR.out]; exact HSL0.out
      obtain ⟨b3, o3, e3, hb3, h0⟩ := hs' (i * 3 + 1) (by omega)
      injection e3 with e3
      injection e3 with e3 e4 _
      subst e3 e4
      have h1 : mkC L (i * 3 + 1) = .int .i64 ((L.getD i ⟨0, 0, 0⟩).at' : Nat) := by
        unfold mkC
        rw [show (i * 3 + 1) / 3 = i by omega, show (i * 3 + 1) % 3 = 1 by omega]
        rfl
      rw [h1, Nat.zero_add] at h0
      obtain ⟨y, hy⟩ : ∃ y, (L.getD i ⟨0, 0, 0⟩).at' = y := ⟨_, rfl⟩
      have HY := Lib.hid hy
      rw [hy] at h0
      obtain ⟨z, hz⟩ : ∃ z, m.at' = z := ⟨_, rfl⟩
      have HZ := Lib.hid hz
      rw [hz] at r1
      clear hs' h1 hy hz hb3
      by_cases hgo : y < z
      · have hyz : ((y : Int) < (z : Int)) = True := by simp; omega
        go_wp2_with fail
        go_quiet (fail)
        go_wp2_with fail
        exact ⟨⟨i + 1, q + nq, by omega, by go_num, fun j hj => (by
          rcases Nat.lt_or_ge j i with h | h
          · exact HLTS.out j h
          · obtain rfl : j = i := by omega
            rw [HY.out, HZ.out]; exact hgo), by rw [HWR.out, World.drewN_drewN]⟩, by simp [intOf] <;> omega⟩
      · have hyz : ((y : Int) < (z : Int)) = False := by simp; omega
        go_wp2_with fail
        go_quiet (fail)
        have HPUT := Lib.hid (putM_at m L i (by rw [HN.out]; exact hi) HLTS.out (.inr (by rw [HY.out, HZ.out]; exact hgo)))
        have HB3 := Lib.hid (show Below w.heap.size w (wr.drewN nq) by rw [HWR.out]; exact (HB0.out.drewN q).drewN nq)
        have HR3 := Lib.hid (HRX.out.drewN nq)
        have HS3 := Lib.hid (show Sl (wr.drewN nq) w.heap.size (some ⟨ga, 0, none⟩) (n * 3) (mkC L) by rw [HWR.out]; exact HSL0.out)
        clear h0 r1 hyz hgo
        generalize wr.drewN nq = W3 at *
        have hz3 := HB3.out.size
        have HPE := Lib.hid (by have := put_mk (show i ≤ L.length by rw [HN.out]; exact hi) HPUT.out; rw [HN.out] at this; exact this)
        have HPL := Lib.hid (show (putM m L).length = n + 1 by rw [putM_len, HN.out])
        have HLN2 := Lib.hid (show i + 1 + (n - i) = n + 1 by omega)
        have HE1 := Lib.hid (show (List.range (1 * 3)).map (mkC [m]) = mkV m from rfl)
        have HSW := Lib.hid (show Sl w w.heap.size (some ⟨ga, 0, none⟩) (n * 3) (mkC L) from HSLW.out)
        have hli : n - i ≤ c' - i := by omega
        have hi2' : (i : Int) ≤ c' := by omega
        have hi3' : i ≤ c' := by omega
        have HALE := Lib.hid (HB3.out.alloc hz3 (.cells #[] 46))
        have HNE := Lib.hid (own_nilE W3 46 3 w.heap.size hz3)
        have HSL := Lib.hid (HS3.out.alloc hz3 (.cells #[] 46))
        have HR4 := Lib.hid (HR3.out.alloc (.cells #[] 46))
        have hrl3 := HR3.out.lt
        go_upto_region 5 with (at_builtin; refine wpList_appR rfl (.tmp 23) (.tmp 26) 40 rfl w.heap.size 46 i0 _ 3 24 Tryd.underlying40 hi0 hi1 hi2 hi3 rfl (by omega) (.slice (some ⟨W3.heap.size, 0, none⟩) 0 0) 0 [] rfl HNE.out (some ⟨ga, 0, none⟩) i c' _ (mkC L) rfl (HSL.out.less (by omega)) (fun _ => rfl) (by simp only [maxLen]; omega) (by omega) (by simp; omega) ?_; intro A9 c9 w9 ho9 hg9 hn9)
        rw [Nat.zero_add, List.nil_append] at ho9
        have hb9 := HALE.out.grown hg9 (by simp; omega) (own_lt HNE.out)
        have HO9 := Lib.hid ho9
        have hz9 : w.heap.size ≤ w9.heap.size := hb9.size
        have HR9 := Lib.hid (show Rw w9 w.heap.size 46 #[.int .i64 (m.kd : Int), .int .i64 (m.at' : Int), .int .i64 (m.bd : Int)] from (hg9.block w.heap.size (by simp; omega) (by simp [Value.ownBlock]; omega)).trans HR4.out)
        have k0 := HR9.out.cell 0
        have k1 := HR9.out.cell 1
        have k2 := HR9.out.cell 2
        have hal9 := hb9.alloc hb9.size (.cells #[.int .i64 (m.kd : Int), .int .i64 (m.at' : Int), .int .i64 (m.bd : Int)] 46)
        have HAL9 := Lib.hid hal9
        have HSN := Lib.hid ((Rw.new w9 46 #[.int .i64 (m.kd : Int), .int .i64 (m.at' : Int), .int .i64 (m.bd : Int)]).sl (n := 1 * 3) (f := mkC [m]) (by
          intro j hj
          have : j = 0 ∨ j = 1 ∨ j = 2 := by omega
          rcases this with rfl | rfl | rfl <;> rfl))
        have HR10a := Lib.hid (HR9.out.alloc (.cells #[.int .i64 (m.kd : Int), .int .i64 (m.at' : Int), .int .i64 (m.bd : Int)] 46))
        clear ho9 hg9 hn9 hb9 hal9
        go_upto_region 6 with (at_builtin; refine wpList_appR rfl (.tmp 28) (.tmp 30) 40 rfl w.heap.size 46 i0 _ 3 24 Tryd.underlying40 hi0 hi1 hi2 hi3 rfl (by omega) (.slice A9 i c9) i _ rfl (HO9.out.alloc _) (some ⟨w9.heap.size, 0, none⟩) 1 1 _ (mkC [m]) rfl HSN.out (fun _ => rfl) (by simp only [maxLen]; omega) (by omega) (by simp; omega) ?_; intro A10 c10 w10 ho10 hg10 hn10)
        have hb10 := HAL9.out.grown hg10 (by simp; omega) (own_lt HO9.out)
        have HO10 := Lib.hid ho10
        have HBB10 := Lib.hid hb10
        have hz10 : w.heap.size ≤ w10.heap.size := hb10.size
        have HOO := Lib.hid (show Sl w10 w.heap.size (some ⟨ga, 0, none⟩) (n * 3) (mkC L) from HSW.out.below hb10)
        clear ho10 hg10 hn10 hb10 k0 k1 k2
        by_cases hci : c' = i
        · have hci2 : (c' = i) = True := by simp [hci]
          have HS11 := Lib.hid (show Sl w10 w.heap.size (some ⟨ga, 0, none⟩) ((n - i) * 3) (fun j => mkC L (i * 3 + j)) by
            rw [show n - i = 0 by omega, Nat.zero_mul]; exact Sl.nil)
          clear hci
          go_wp2_with (at_builtin; refine wpList_appR rfl (.tmp 32) (.tmp 35) 40 rfl w.heap.size 46 i0 _ 3 24 Tryd.underlying40 hi0 hi1 hi2 hi3 rfl (by omega) (.slice A10 (i + 1) c10) (i + 1) _ rfl HO10.out (some ⟨ga, 0, none⟩) (n - i) (c' - i) _ (fun j => mkC L (i * 3 + j)) rfl HS11.out (fun _ => rfl) (by simp only [maxLen]; omega) (by omega) (by omega) ?_; intro A11 c11 w11 ho11 hg11 hn11; obtain ⟨g11, cap11, hv11, _, _⟩ := ho11.form (by omega); injection hv11 with hA11 _ hC11; subst hA11 hC11)
          have hb11 := HBB10.out.grown hg11 hz10 (own_lt HO10.out)
          have HO11 := Lib.hid ho11
          clear ho11 hg11 hn11
          go_ret
          refine ⟨g11, c11, by rw [HPL.out, HLN2.out]; rfl, ?_, hb11⟩
          have h11 := HO11.out
          rw [HE1.out, HPE.out, HLN2.out] at h11
          unfold MkR
          rw [HPL.out]
          exact h11
        · have hci2 : (c' = i) = False := by simp [hci]
          have HS11 := Lib.hid (show Sl w10 w.heap.size (some ⟨ga, i * 3, none⟩) ((n - i) * 3) (fun j => mkC L (i * 3 + j)) by
            have := Sl.drop (k := i * 3) HOO.out
            rw [Nat.zero_add, show n * 3 - i * 3 = (n - i) * 3 by omega] at this
            exact this)
          clear hci
          go_wp2_with (at_builtin; refine wpList_appR rfl (.tmp 32) (.tmp 35) 40 rfl w.heap.size 46 i0 _ 3 24 Tryd.underlying40 hi0 hi1 hi2 hi3 rfl (by omega) (.slice A10 (i + 1) c10) (i + 1) _ rfl HO10.out (some ⟨ga, i * 3, none⟩) (n - i) (c' - i) _ (fun j => mkC L (i * 3 + j)) rfl HS11.out (fun _ => rfl) (by simp only [maxLen]; omega) (by omega) (by omega) ?_; intro A11 c11 w11 ho11 hg11 hn11; obtain ⟨g11, cap11, hv11, _, _⟩ := ho11.form (by omega); injection hv11 with hA11 _ hC11; subst hA11 hC11)
          have hb11 := HBB10.out.grown hg11 hz10 (own_lt HO10.out)
          have HO11 := Lib.hid ho11
          clear ho11 hg11 hn11
          go_ret
          refine ⟨g11, c11, by rw [HPL.out, HLN2.out]; rfl, ?_, hb11⟩
          have h11 := HO11.out
          rw [HE1.out, HPE.out, HLN2.out] at h11
          unfold MkR
          rw [HPL.out]
          exact h11
    · have hil' : decide ((i : Int) < n) = false := by simp; omega
      have HPUT := Lib.hid (putM_at m L i (by rw [HN.out]; exact hi) HLTS.out (.inl (by rw [HN.out]; omega)))
      go_wp2_with fail
      go_quiet (fail)
      have HB3 := Lib.hid (show Below w.heap.size w (wr.drewN nq) by rw [HWR.out]; exact (HB0.out.drewN q).drewN nq)
      have HR3 := Lib.hid (HRX.out.drewN nq)
      have HS3 := Lib.hid (show Sl (wr.drewN nq) w.heap.size (some ⟨ga, 0, none⟩) (n * 3) (mkC L) by rw [HWR.out]; exact HSL0.out)
      clear r1 hil'
      generalize wr.drewN nq = W3 at *
      have hz3 := HB3.out.size
      have HPE := Lib.hid (by have := put_mk (show i ≤ L.length by rw [HN.out]; exact hi) HPUT.out; rw [HN.out] at this; exact this)
      have HPL := Lib.hid (show (putM m L).length = n + 1 by rw [putM_len, HN.out])
      have HLN2 := Lib.hid (show i + 1 + (n - i) = n + 1 by omega)
      have HE1 := Lib.hid (show (List.range (1 * 3)).map (mkC [m]) = mkV m from rfl)
      have HSW := Lib.hid (show Sl w w.heap.size (some ⟨ga, 0, none⟩) (n * 3) (mkC L) from HSLW.out)
      have hli : n - i ≤ c' - i := by omega
      have hi2' : (i : Int) ≤ c' := by omega
      have hi3' : i ≤ c' := by omega
      have HALE := Lib.hid (HB3.out.alloc hz3 (.cells #[] 46))
      have HNE := Lib.hid (own_nilE W3 46 3 w.heap.size hz3)
      have HSL := Lib.hid (HS3.out.alloc hz3 (.cells #[] 46))
      have HR4 := Lib.hid (HR3.out.alloc (.cells #[] 46))
      have hrl3 := HR3.out.lt
      go_upto_region 5 with (at_builtin; refine wpList_appR rfl (.tmp 23) (.tmp 26) 40 rfl w.heap.size 46 i0 _ 3 24 Tryd.underlying40 hi0 hi1 hi2 hi3 rfl (by omega) (.slice (some ⟨W3.heap.size, 0, none⟩) 0 0) 0 [] rfl HNE.out (some ⟨ga, 0, none⟩) i c' _ (mkC L) rfl (HSL.out.less (by omega)) (fun _ => rfl) (by simp only [maxLen]; omega) (by omega) (by simp; omega) ?_; intro A9 c9 w9 ho9 hg9 hn9)
      rw [Nat.zero_add, List.nil_append] at ho9
      have hb9 := HALE.out.grown hg9 (by simp; omega) (own_lt HNE.out)
      have HO9 := Lib.hid ho9
      have hz9 : w.heap.size ≤ w9.heap.size := hb9.size
      have HR9 := Lib.hid (show Rw w9 w.heap.size 46 #[.int .i64 (m.kd : Int), .int .i64 (m.at' : Int), .int .i64 (m.bd : Int)] from (hg9.block w.heap.size (by simp; omega) (by simp [Value.ownBlock]; omega)).trans HR4.out)
      have k0 := HR9.out.cell 0
      have k1 := HR9.out.cell 1
      have k2 := HR9.out.cell 2
      have hal9 := hb9.alloc hb9.size (.cells #[.int .i64 (m.kd : Int), .int .i64 (m.at' : Int), .int .i64 (m.bd : Int)] 46)
      have HAL9 := Lib.hid hal9
      have HSN := Lib.hid ((Rw.new w9 46 #[.int .i64 (m.kd : Int), .int .i64 (m.at' : Int), .int .i64 (m.bd : Int)]).sl (n := 1 * 3) (f := mkC [m]) (by
        intro j hj
        have : j = 0 ∨ j = 1 ∨ j = 2 := by omega
        rcases this with rfl | rfl | rfl <;> rfl))
      have HR10a := Lib.hid (HR9.out.alloc (.cells #[.int .i64 (m.kd : Int), .int .i64 (m.at' : Int), .int .i64 (m.bd : Int)] 46))
      clear ho9 hg9 hn9 hb9 hal9
      go_upto_region 6 with (at_builtin; refine wpList_appR rfl (.tmp 28) (.tmp 30) 40 rfl w.heap.size 46 i0 _ 3 24 Tryd.underlying40 hi0 hi1 hi2 hi3 rfl (by omega) (.slice A9 i c9) i _ rfl (HO9.out.alloc _) (some ⟨w9.heap.size, 0, none⟩) 1 1 _ (mkC [m]) rfl HSN.out (fun _ => rfl) (by simp only [maxLen]; omega) (by omega) (by simp; omega) ?_; intro A10 c10 w10 ho10 hg10 hn10)
      have hb10 := HAL9.out.grown hg10 (by simp; omega) (own_lt HO9.out)
      have HO10 := Lib.hid ho10
      have HBB10 := Lib.hid hb10
      have hz10 : w.heap.size ≤ w10.heap.size := hb10.size
      have HOO := Lib.hid (show Sl w10 w.heap.size (some ⟨ga, 0, none⟩) (n * 3) (mkC L) from HSW.out.below hb10)
      clear ho10 hg10 hn10 hb10 k0 k1 k2
      by_cases hci : c' = i
      · have hci2 : (c' = i) = True := by simp [hci]
        have HS11 := Lib.hid (show Sl w10 w.heap.size (some ⟨ga, 0, none⟩) ((n - i) * 3) (fun j => mkC L (i * 3 + j)) by
          rw [show n - i = 0 by omega, Nat.zero_mul]; exact Sl.nil)
        clear hci
        go_wp2_with (at_builtin; refine wpList_appR rfl (.tmp 32) (.tmp 35) 40 rfl w.heap.size 46 i0 _ 3 24 Tryd.underlying40 hi0 hi1 hi2 hi3 rfl (by omega) (.slice A10 (i + 1) c10) (i + 1) _ rfl HO10.out (some ⟨ga, 0, none⟩) (n - i) (c' - i) _ (fun j => mkC L (i * 3 + j)) rfl HS11.out (fun _ => rfl) (by simp only [maxLen]; omega) (by omega) (by omega) ?_; intro A11 c11 w11 ho11 hg11 hn11; obtain ⟨g11, cap11, hv11, _, _⟩ := ho11.form (by omega); injection hv11 with hA11 _ hC11; subst hA11 hC11)
        have hb11 := HBB10.out.grown hg11 hz10 (own_lt HO10.out)
        have HO11 := Lib.hid ho11
        clear ho11 hg11 hn11
        go_ret
        refine ⟨g11, c11, by rw [HPL.out, HLN2.out]; rfl, ?_, hb11⟩
        have h11 := HO11.out
        rw [HE1.out, HPE.out, HLN2.out] at h11
        unfold MkR
        rw [HPL.out]
        exact h11
      · have hci2 : (c' = i) = False := by simp [hci]
        have HS11 := Lib.hid (show Sl w10 w.heap.size (some ⟨ga, i * 3, none⟩) ((n - i) * 3) (fun j => mkC L (i * 3 + j)) by
          have := Sl.drop (k := i * 3) HOO.out
          rw [Nat.zero_add, show n * 3 - i * 3 = (n - i) * 3 by omega] at this
          exact this)
        clear hci
        go_wp2_with (at_builtin; refine wpList_appR rfl (.tmp 32) (.tmp 35) 40 rfl w.heap.size 46 i0 _ 3 24 Tryd.underlying40 hi0 hi1 hi2 hi3 rfl (by omega) (.slice A10 (i + 1) c10) (i + 1) _ rfl HO10.out (some ⟨ga, i * 3, none⟩) (n - i) (c' - i) _ (fun j => mkC L (i * 3 + j)) rfl HS11.out (fun _ => rfl) (by simp only [maxLen]; omega) (by omega) (by omega) ?_; intro A11 c11 w11 ho11 hg11 hn11; obtain ⟨g11, cap11, hv11, _, _⟩ := ho11.form (by omega); injection hv11 with hA11 _ hC11; subst hA11 hC11)
        have hb11 := HBB10.out.grown hg11 hz10 (own_lt HO10.out)
        have HO11 := Lib.hid ho11
        clear ho11 hg11 hn11
        go_ret
        refine ⟨g11, c11, by rw [HPL.out, HLN2.out]; rfl, ?_, hb11⟩
        have h11 := HO11.out
        rw [HE1.out, HPE.out, HLN2.out] at h11
        unfold MkR
        rw [HPL.out]
        exact h11
end Go.Proofs.YtabmdbhbbmnkdaaDoor
