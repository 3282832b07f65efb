/-
  JoinFiles: the program's side, whole.
-/
import Derived.Test.YtdofpkdemmngeaaVfT
import Derived.Test.YtdofpkdemmngeaaJnC
import Derived.Test.YtdofpkdemmngeaaJnK
import Derived.Test.YtdofpkdemmngeaaStbY
import Derived.Deep.DeepCutAuto
namespace Go.Proofs.Ytdofpkdemmngeaa
open Go Go.ChangeShapes Go.WideShapes Go.ChangeAt Go.RowKit lib
set_option linter.unusedVariables false
set_option linter.unusedSimpArgs false
set_option maxRecDepth 100000
theorem vf_inc {n : Nat} {s : Nat → ByteArray} (h : VF n s) : IncF (filS s n) := by
  have key : ∀ i j, i < j → j < n → kB (s (i * 2)) < kB (s (j * 2)) := by
    intro i j hij
    induction j with
    | zero => omega
    | succ j ih =>
      intro hj
      have h1 := (h.2 (j + 1) hj).2.2 (by omega)
      have h2 : kB (s (j * 2)) < kB (s ((j + 1) * 2)) := by
        rw [← ltB_iff]
        unfold ltB
        simpa using h1
      rcases Nat.eq_or_lt_of_le (Nat.le_of_lt_succ hij) with rfl | h3
      · exact h2
      · exact List.lt_trans (ih h3 (by omega)) h2
  refine List.pairwise_iff_getElem.2 fun i j hi hj hij => ?_
  simp only [filS_len] at hi hj
  simp only [filS, List.getElem_map, List.getElem_range]
  exact key i j hij hj
open Classical in
noncomputable def jCode (n m : Nat) (s t : Nat → ByteArray) : Int := if VF n s ∧ VF m t then (if ConfF (filS s n) (filS t m) then 4 else if 16 < (joinL (filS s n) (filS t m)).length then 5 else 0) else 1
noncomputable def jLen (n m : Nat) (s t : Nat → ByteArray) : Nat := if jCode n m s t = 0 then (joinL (filS s n) (filS t m)).length else 0
theorem jCode_bad {n m : Nat} {s t : Nat → ByteArray} (h : ¬ (VF n s ∧ VF m t)) : jCode n m s t = 1 := by unfold jCode; rw [if_neg h]
theorem jCode_conf {n m : Nat} {s t : Nat → ByteArray} (h : VF n s ∧ VF m t) (h2 : ConfF (filS s n) (filS t m)) : jCode n m s t = 4 := by unfold jCode; rw [if_pos h, if_pos h2]
theorem jCode_full {n m : Nat} {s t : Nat → ByteArray} {M : List FL2} (h : VF n s ∧ VF m t) (h2 : JoinIs (filS s n) (filS t m) M) (h3 : 16 < M.length) : jCode n m s t = 5 := by unfold jCode; rw [if_pos h, if_neg (conf_not h2), joinL_is h2, if_pos h3]
theorem jCode_ok {n m : Nat} {s t : Nat → ByteArray} {M : List FL2} (h : VF n s ∧ VF m t) (h2 : JoinIs (filS s n) (filS t m) M) (h3 : ¬ 16 < M.length) : jCode n m s t = 0 := by unfold jCode; rw [if_pos h, if_neg (conf_not h2), joinL_is h2, if_neg h3]
/-- how a joining ends -/
def JOut (n m : Nat) (s t : Nat → ByteArray) (r : Ending) (w w' : World) : Prop := ∃ A2 c2, r = .returned (.tuple #[.slice A2 (jLen n m s t) c2, .int .i64 (jCode n m s t)]) ∧ w'.ownsRow w.heap.size 43 2 (.slice A2 (jLen n m s t) c2) (jLen n m s t) ((List.range (jLen n m s t * 2)).map fun i => .string (fAt (joinL (filS s n) (filS t m)) i)) ∧ Below w.heap.size w w'
theorem jOut_err {n m : Nat} {s t : Nat → ByteArray} {r : Ending} {w w' : World} {A : Option Addr} {c : Nat} {cd : Int} (h : jCode n m s t = cd) (hc : cd ≠ 0) (hr : r = .returned (.tuple #[.slice A 0 c, .int .i64 cd])) (ho : w'.ownsRow w.heap.size 43 2 (.slice A 0 c) 0 []) (hb : Below w.heap.size w w') : JOut n m s t r w w' := by
  have hl : jLen n m s t = 0 := by unfold jLen; rw [if_neg (by rw [h]; exact hc)]
  unfold JOut
  rw [hl, h]
  exact ⟨A, c, hr, ho, hb⟩
theorem jOut_ok {n m : Nat} {s t : Nat → ByteArray} {r : Ending} {w w' : World} {A : Option Addr} {c : Nat} {M : List FL2} (h : jCode n m s t = 0) (hj : JoinIs (filS s n) (filS t m) M) (hr : r = .returned (.tuple #[.slice A M.length c, .int .i64 0])) (ho : FileR w.heap.size w' A c M) (hb : Below w.heap.size w w') : JOut n m s t r w w' := by
  have hl : jLen n m s t = M.length := by unfold jLen; rw [if_pos h, joinL_is hj]
  unfold JOut
  rw [hl, h, joinL_is hj]
  exact ⟨A, c, hr, ho.own, hb⟩
theorem sortSF_any {w : World} {Bd c : Nat} {A : Option Addr} {L : List FL2} (h : FileR Bd w A c L) (hn : L.length ≤ 1024) :
    Calls Try.prog 19 #[.slice A L.length c, .func (.func 20) #[] #[]] w fun e w' => e = .returned (.tuple #[]) ∧ ∃ D : List FL2, D.Perm L ∧ D.length = L.length ∧ (D.Pairwise fun a b => kB a.1 ≤ kB b.1) ∧ FileR Bd w' A c D ∧ w.grownBy w' (Value.slice A L.length c).ownBlock := by
  have hs := sortStable_row encF (fun _ => rfl) (fun x v hv => by
    simp only [encF, List.mem_cons, List.not_mem_nil, or_false] at hv
    rcases hv with rfl | rfl <;> rfl) (fun a b => cmpS a.1 b.1) swo_names 20 #[] (fun _ _ => rfl) (fun x y W => by simpa [encF] using compareNames_any x y W) h (by omega)
  refine hs.mono ?_
  rintro e w' ⟨rfl, D, hp, hl, hsrt, ho, hgr⟩
  refine ⟨rfl, D, hp, hl, ?_, ?_, hgr⟩
  · refine hsrt.imp ?_
    intro a b hab
    rw [ltOf_names] at hab
    exact (ltB_ff _ _).1 hab
  · unfold FileR
    rw [hl]
    exact ho
set_option maxHeartbeats 4000000 in
theorem implJoin_any (A B : Option Addr) (n m c d : Nat) (s t : Nat → ByteArray) (w : World) (hn : n ≤ 1048576) (hm : m ≤ 1048576) (hsz : ∀ i, i < n * 2 → (s i).size ≤ 1048576) (htz : ∀ i, i < m * 2 → (t i).size ≤ 1048576)
    (hs : Sl w w.heap.size A (n * 2) (fun i => .string (s i))) (ht : Sl w w.heap.size B (m * 2) (fun i => .string (t i))) :
    Calls Try.prog 6 #[.slice A n c, .slice B m d] w fun r w' => JOut n m s t r w w' := by
  have HV1 := Lib.hid (show ∀ (X : Value) (W : World), X = .slice A n c → W = w → Calls Try.prog 17 #[X] W fun e w' => VfOut (VF n s) e W w' from fun X W e eW => by rw [e, eW]; exact implValid_any A n c s w hn hsz hs)
  have HV3 := Lib.hid (show ∀ (X : Value) (W : World), X = .slice B m d → Below w.heap.size w W → Calls Try.prog 17 #[X] W fun e w' => VfOut (VF m t) e W w' from fun X W e hb => by rw [e]; exact implValid_any B m d t W hm htz ((ht.below hb).more hb.size))
  by_cases hv1 : VF n s
  · by_cases hv2 : VF m t
    · have hn16 := hv1.1
      have hm16 := hv2.1
      have HV := Lib.hid (show VF n s ∧ VF m t from ⟨hv1, hv2⟩)
      have HI1 := Lib.hid (vf_inc hv1)
      have HI2 := Lib.hid (vf_inc hv2)
      have HCO := Lib.hid (fun (W : World) (hW : Below w.heap.size w W) => (by
        have hr := Rw.new W 24 #[.slice A n c, .slice B m d]
        have hb := hW.alloc hW.size (.cells #[.slice A n c, .slice B m d] 24)
        exact concat_any ((hs.below hb).more hb.size) ((ht.below hb).more hb.size) (by omega) (by omega) hr.lt (hr.cell 0) (hr.cell 1) :
        Calls Try.prog 18 #[.slice (some ⟨W.heap.size, 0, none⟩) 2 2] (W.alloc (.cells #[.slice A n c, .slice B m d] 24)) fun e w' => ∃ A' c', e = .returned (.slice A' (n + m) c') ∧ FileR (W.alloc (.cells #[.slice A n c, .slice B m d] 24)).heap.size w' A' c' (filS s n ++ filS t m) ∧ Below (W.alloc (.cells #[.slice A n c, .slice B m d] 24)).heap.size (W.alloc (.cells #[.slice A n c, .slice B m d] 24)) w'))
      clear hs ht hsz htz
      go_enter Try.func6, Try.ntmps6
      go_upto_region 3 with (first
        | (go_at_call 17; refine (HV1.out _ _ (by rfl) (by rfl)).mono ?_; rintro r w1 ⟨b1, hb1', rfl, hb1⟩; obtain rfl : b1 = true := hb1'.2 hv1)
        | (go_at_call 17; refine (HV3.out _ _ (by rfl) hb1).mono ?_; rintro r w2 ⟨b2, hb2', rfl, hb2⟩; obtain rfl : b2 = true := hb2'.2 hv2))
      have hB2 := hb1.trans (hb2.mono hb1.size)
      have HB2 := Lib.hid hB2
      have HC2 := Lib.hid (HCO.out _ hB2)
      have hbl := hB2.alloc hB2.size (.cells #[.slice A n c, .slice B m d] 24)
      have HBL := Lib.hid hbl
      clear hb1 hb2 hb1' hb2' hv1 hv2 hB2 hbl HV1 HV3 HCO
      go_upto_region 4 with (go_at_call 18; refine HC2.out.mono ?_; rintro r w3 ⟨A3, c3, rfl, ho3, hb3⟩)
      have hB3 := HBL.out.trans (hb3.mono HBL.out.size)
      obtain ⟨X, hX⟩ : ∃ X, filS s n ++ filS t m = X := ⟨_, rfl⟩
      have hXl : X.length = n + m := by rw [← hX, List.length_append, filS_len, filS_len]
      rw [hX] at ho3
      have ho3' : FileR w.heap.size w3 A3 c3 X := ho3.base HBL.out.size
      have HX := Lib.hid hX
      have HXL := Lib.hid hXl
      have HO3 := Lib.hid ho3'
      have HB3 := Lib.hid hB3
      have hso := sortSF_any ho3' (by rw [hXl]; omega)
      rw [hXl] at hso
      have HSO := Lib.hid hso
      clear ho3 ho3' hb3 hB3 hX hXl hso HC2 HBL HB2
      go_upto_region 5 with (go_at_call 19; refine HSO.out.mono ?_; rintro r w4 ⟨rfl, D, hp, hDl, hsrt, ho4, hg4⟩)
      have hDl2 : D.length = n + m := hDl
      have hg4l : w3.grownBy w4 (Value.slice A3 X.length c3).ownBlock := by rw [HXL.out]; exact hg4
      have hB4 : Below w.heap.size w w4 := HB3.out.grown hg4l HB3.out.size (fun j hj => own_lt HO3.out j hj)
      have hco := compactF_any ho4 hB4.size (by omega)
      obtain ⟨C, hC⟩ : ∃ C, ddU D D.length = C := ⟨_, rfl⟩
      have hpj := prog_join HI1.out HI2.out (by rw [HX.out]; exact hp) hsrt
      rw [hC] at hco hpj
      rw [hDl2] at hco
      have HCO := Lib.hid hco
      have HPJ := Lib.hid hpj
      have HO4 := Lib.hid ho4
      have HB4 := Lib.hid hB4
      have HDL := Lib.hid hDl2
      have hCl : C.length ≤ 32 := by rw [← hC]; have := ddU_len D D.length; omega
      clear hco hpj ho4 hB4 hg4 hg4l hp hsrt hDl hDl2 hC
      go_upto_region 6 with (go_at_call 21; refine HCO.out.mono ?_; rintro r w5 ⟨rfl, ho5, hg5⟩)
      have hg5l : w4.grownBy w5 (Value.slice A3 D.length c3).ownBlock := by rw [HDL.out]; exact hg5
      have hB5 : Below w.heap.size w w5 := HB4.out.grown hg5l HB4.out.size (fun j hj => own_lt HO4.out j hj)
      obtain ⟨k, hk⟩ : ∃ k, C.length = k := ⟨_, rfl⟩
      have HO5 := Lib.hid ho5
      have HB5 := Lib.hid hB5
      have HK := Lib.hid hk
      rw [hk] at hCl ⊢
      clear ho5 hB5 hg5 hg5l hk
      go_wp2_with fail
      go_loopw [7] (fun s7 wr => ∃ i : Nat, (i + 1 ≤ k ∨ i = 0) ∧ s7 = .int .i64 ((i : Int) + 1) ∧ ¬ adjF C (i + 1) ∧ Below w5.heap.size w5 wr) (fun i _ => k - (intOf i).toNat)
      case atStart => exact ⟨0, .inr rfl, rfl, fun ⟨j, hj, _⟩ => absurd hj (by omega), Below.refl _ _⟩
      case round =>
        obtain ⟨i, hi, rfl, hadj, hbr⟩ := hrel
        have HADJ := Lib.hid hadj
        have HBR := Lib.hid (HB5.out.trans (hbr.mono HB5.out.size))
        have hor := HO5.out.below hbr
        have HOR := Lib.hid hor
        have HB5R := Lib.hid hbr
        clear hadj hbr
        have hib : i ≤ 32 := by omega
        by_cases hlt : i + 1 < k
        · unfold FileR at hor
          rw [HK.out] at hor
          obtain ⟨g, cap, e1, _, _⟩ := hor.form (by omega)
          simp only [Value.slice.injEq] at e1
          obtain ⟨rfl, _, rfl⟩ := e1
          obtain ⟨k0, _⟩ := row_two hor HK.out (i := i + 1) hlt
          obtain ⟨l0, _⟩ := row_two hor HK.out (i := i) (by omega)
          obtain ⟨x, hx⟩ : ∃ x, (C.getD (i + 1) f0).1 = x := ⟨_, rfl⟩
          obtain ⟨y, hy⟩ : ∃ y, (C.getD i f0).1 = y := ⟨_, rfl⟩
          rw [hx] at k0
          rw [hy] at l0
          have HXX := Lib.hid hx
          have HYY := Lib.hid hy
          clear hor hx hy
          have hli : (i : Int) + 1 < (k : Int) := by omega
          by_cases hxy : x = y
          · have e1 : (x.toList == y.toList) = true := str_eq_true hxy
            have HJ := Lib.hid (jCode_conf HV.out (HPJ.out.1 ⟨i, by rw [HK.out]; exact hlt, by rw [HXX.out, HYY.out, hxy]⟩))
            clear hxy
            go_upto_region 9 with fail
            go_quiet (fail)
            go_wp2_with fail
            go_ret2
            exact jOut_err HJ.out (by decide) rfl (World.ownsRow_nil _ _ _ _) (HBR.out.drewN _)
          · have e1 : (x.toList == y.toList) = false := str_eq_false hxy
            have hadj2 := adjF_more HADJ.out (by rw [HXX.out, HYY.out]; exact fun q => hxy q.symm)
            have HA2 := Lib.hid hadj2
            clear hxy hadj2
            go_upto_region 9 with fail
            go_quiet (fail)
            go_wp2_with fail
            go_roundw
            case rel => exact ⟨i + 1, .inl (by omega), by go_num, HA2.out, HB5R.out.drewN _⟩
            case measure => simp [intOf]; omega
        · have hna : ¬ adjF C C.length := fun ⟨j, hj, he⟩ => HADJ.out ⟨j, by rw [HK.out] at hj; omega, he⟩
          have hji := HPJ.out.2 hna
          have HJI := Lib.hid hji
          clear hna hji hor
          have hli : ¬ (i : Int) + 1 < (k : Int) := by omega
          by_cases h16 : 16 < k
          · have HJ := Lib.hid (jCode_full HV.out HJI.out (by rw [HK.out]; exact h16))
            have d0 : (16 : Int) < (k : Int) := by omega
            go_wp2_with fail
            go_ret2
            exact jOut_err HJ.out (by decide) rfl (World.ownsRow_nil _ _ _ _) HBR.out
          · have HJ := Lib.hid (jCode_ok HV.out HJI.out (by rw [HK.out]; exact h16))
            have d0 : ¬ (16 : Int) < (k : Int) := by omega
            go_wp2_with fail
            go_ret2
            exact jOut_ok HJ.out HJI.out (by rw [HK.out]; rfl) HOR.out HBR.out
    · have HJ := Lib.hid (jCode_bad (fun q => hv2 q.2) : jCode n m s t = 1)
      clear hs ht hsz htz
      go_enter Try.func6, Try.ntmps6
      go_wp2_with (first
        | (go_at_call 17; refine (HV1.out _ _ (by rfl) (by rfl)).mono ?_; rintro r w1 ⟨b1, hb1', rfl, hb1⟩; obtain rfl : b1 = true := hb1'.2 hv1)
        | (go_at_call 17; refine (HV3.out _ _ (by rfl) hb1).mono ?_; rintro r w2 ⟨b2, hb2', rfl, hb2⟩; obtain rfl : b2 = false := by cases b2 with | false => rfl | true => exact absurd (hb2'.1 rfl) hv2))
      go_ret2
      exact jOut_err HJ.out (by decide) rfl (World.ownsRow_nil _ _ _ _) (hb1.trans (hb2.mono hb1.size))
  · have HJ := Lib.hid (jCode_bad (fun q => hv1 q.1) : jCode n m s t = 1)
    clear hs ht hsz htz
    go_enter Try.func6, Try.ntmps6
    go_wp2_with (go_at_call 17; refine (HV1.out _ _ (by rfl) (by rfl)).mono ?_; rintro r w1 ⟨b1, hb1', rfl, hb1⟩; obtain rfl : b1 = false := by cases b1 with | false => rfl | true => exact absurd (hb1'.1 rfl) hv1)
    go_ret2
    exact jOut_err HJ.out (by decide) rfl (World.ownsRow_nil _ _ _ _) hb1
end Go.Proofs.Ytdofpkdemmngeaa
