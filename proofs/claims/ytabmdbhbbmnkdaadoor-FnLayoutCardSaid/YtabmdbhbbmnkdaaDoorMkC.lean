/-
  Marks: the reference's runs of ones (l07Syncs).
-/
import Derived.Test.YtabmdbhbbmnkdaaDoorMkB
import Derived.Test.YtabmdbhbbmnkdaaDoorXmPush
namespace Go.Proofs.YtabmdbhbbmnkdaaDoor
open Go Go.ChangeShapes Go.WideShapes Go.ChangeAt Go.RowKit Go.Joins lib
set_option linter.unusedVariables false
set_option linter.unusedSimpArgs false
set_option maxRecDepth 100000
/-- how many ones lie from a on, n at most -/
def cntU (c : List UInt8) (a : Nat) : Nat := ((List.range c.length).takeWhile fun k => cyc c (a + k) == 49).length
theorem tw_range (P : Nat → Bool) (n k : Nat) (hk : k ≤ n) (h1 : ∀ j, j < k → P j = true) (h2 : k = n ∨ P k = false) : ((List.range n).takeWhile P).length = k := by
  have e : n = k + (n - k) := by omega
  rw [e, List.range_add]
  have ht : ∀ x ∈ List.range k, P x = true := fun x hx => h1 x (List.mem_range.1 hx)
  rw [List.takeWhile_append_of_pos ht, List.length_append, List.length_range]
  have : ((List.map (fun x => k + x) (List.range (n - k))).takeWhile P) = [] := by
    rcases h2 with h2 | h2
    · rw [show n - k = 0 by omega]; rfl
    · cases hm : n - k with
      | zero => rfl
      | succ m =>
        rw [List.range_succ_eq_map, List.map_cons, List.takeWhile_cons, Nat.add_zero, h2]
        rfl
  rw [this]
  rfl
theorem cntU_eq {c : List UInt8} {a k : Nat} (hk : k ≤ c.length) (h1 : ∀ j, j < k → cyc c (a + j) = 49) (h2 : k = c.length ∨ cyc c (a + k) ≠ 49) : cntU c a = k := by
  unfold cntU
  refine tw_range _ _ _ hk (fun j hj => by simpa using h1 j hj) ?_
  rcases h2 with h | h
  · exact .inl h
  · exact .inr (by simpa using h)
def syncA (c : List UInt8) (a : Nat) : List (Nat × Nat) := if cyc c a = 49 ∧ cyc c (a + c.length - 1) ≠ 49 ∧ 10 ≤ cntU c a then [(a, cntU c a)] else []
def syncU (c : List UInt8) (i : Nat) : List (Nat × Nat) := (List.range i).flatMap (syncA c)
theorem syncU_succ (c : List UInt8) (i : Nat) : syncU c (i + 1) = syncU c i ++ syncA c i := by
  unfold syncU
  rw [List.range_succ, List.flatMap_append]
  simp
theorem syncA_len (c : List UInt8) (a : Nat) : (syncA c a).length ≤ 1 := by
  unfold syncA
  split <;> simp
theorem syncU_len (c : List UInt8) : ∀ i, (syncU c i).length ≤ i
  | 0 => by unfold syncU; simp
  | i + 1 => by
    rw [syncU_succ, List.length_append]
    have := syncU_len c i
    have := syncA_len c i
    omega
def crV (m : Nat × Nat) : List Value := [.int .i64 (m.1 : Int), .int .i64 (m.2 : Int)]
def crsV (L : List (Nat × Nat)) : List Value := L.flatMap crV
theorem crsV_append (a b : List (Nat × Nat)) : crsV (a ++ b) = crsV a ++ crsV b := List.flatMap_append
theorem infoCr : (Tryd.prog.info? 109).map (fun i => (i.zero, i.size, i.bytes)) = some (some (.agg #[.int .i64 0, .int .i64 0]), 2, 16) := by kernel_rfl
def SyncOut (c : List UInt8) (w w' : World) (e : Ending) : Prop := ∃ A2 c2, e = .returned (.slice A2 (syncU c c.length).length c2) ∧ w'.ownsRow w.heap.size 109 2 (.slice A2 (syncU c c.length).length c2) (syncU c c.length).length (crsV (syncU c c.length)) ∧ Below w.heap.size w w'
theorem cyc_lt (c : List UInt8) {i : Nat} (h : i < c.length) : cyc c i = c.getD i 0 := by unfold cyc; rw [Nat.mod_eq_of_lt h]
set_option maxHeartbeats 4000000 in
theorem l07Syncs_any (c : List UInt8) (hn : 1 ≤ c.length) (hm : c.length ≤ 8000) (w : World) : Calls Tryd.prog 65 #[.string (strL c)] w fun e w' => SyncOut c w w' e := by
  have HA := Lib.hid (fun (k : Nat) (hk : k ≤ 100000) (x : Int) (hx : x = k) (W : World) => l07At_any c hn hm k hk x hx W)
  have hsz : (strL c).size = c.length := strL_size c
  have HP := Lib.hid (fun (i : Nat) (hi : i < c.length) => show byteAt (strL c) i = cyc c i by rw [byteAt_strL, cyc_lt c hi])
  have HSU := Lib.hid (syncU_succ c)
  have HL := Lib.hid (syncU_len c)
  have HSA := Lib.hid (fun a => show syncA c a = if cyc c a = 49 ∧ cyc c (a + c.length - 1) ≠ 49 ∧ 10 ≤ cntU c a then [(a, cntU c a)] else [] from rfl)
  have HCE := Lib.hid (fun a k => cntU_eq (c := c) (a := a) (k := k))
  have hnil := own_nilE w 109 2 w.heap.size (Nat.le_refl _)
  have hbn := (Below.refl w.heap.size w).alloc (Nat.le_refl _) (.cells #[] 109)
  have HNIL := Lib.hid hnil
  have HBN := Lib.hid hbn
  clear hnil hbn
  unfold SyncOut
  obtain ⟨C, hC⟩ : ∃ S, strL c = S := ⟨_, rfl⟩
  obtain ⟨n, hn'⟩ : ∃ n, c.length = n := ⟨_, rfl⟩
  rw [hC] at HA
  rw [hC, hn'] at hsz HP
  rw [hn'] at hm hn HSA HCE
  rw [hC, hn']
  clear hC hn'
  go_enter Tryd.func65, Tryd.ntmps65
  go_upto_region 3 with fail
  generalize hW1 : w.alloc (.cells #[] 109) = W1 at *
  clear hW1
  go_wp2_with fail
  go_loopw [4, 5, 6] (fun s4 s5 s6 wr => ∃ (i m : Nat) (A2 : Option Addr) (c2 : Nat), i ≤ n ∧ (syncU c i).length = m ∧ s5 = .int .i64 i ∧ s4 = .slice A2 m c2 ∧ wr.ownsRow w.heap.size 109 2 (.slice A2 m c2) m (crsV (syncU c i)) ∧ Below w.heap.size w wr) (fun _ s5 _ _ => n - (intOf s5).toNat)
  case atStart => exact ⟨0, 0, some ⟨w.heap.size, 0, none⟩, 0, by omega, rfl, rfl, rfl, HNIL.out, HBN.out⟩
  case round =>
    obtain ⟨i, m, A2, c2, hi, hm2, rfl, rfl, ho, hb⟩ := hrel
    have HM := Lib.hid hm2
    have HO := Lib.hid ho
    have HB := Lib.hid hb
    have hz := hb.size
    have hml := HL.out i
    rw [hm2] at hml
    clear hm2 ho hb
    by_cases hlt : i < n
    · have hii : (i : Int) < (n : Int) := by omega
      have HS1 := Lib.hid (HSU.out i)
      have HSA1 := Lib.hid (HSA.out i)
      have hy := HP.out i hlt
      have hgt := byteAt_get C i (by omega)
      rw [hy] at hgt
      have H1 := Lib.hid (fun (x : Int) (hx : x = (i : Int) + (n : Int) - 1) (W : World) => HA.out (i + n - 1) (by omega) x (by omega) W)
      obtain ⟨y, hyy⟩ : ∃ y, cyc c i = y := ⟨_, rfl⟩
      have HY := Lib.hid hyy
      rw [hyy] at hgt HSA1
      obtain ⟨z, hzz⟩ : ∃ y, cyc c (i + n - 1) = y := ⟨_, rfl⟩
      rw [hzz] at H1 HSA1
      clear hyy hy hzz
      by_cases h1 : y = 49
      · subst h1
        by_cases h2 : z = 49
        · subst h2
          have HE := Lib.hid (show syncA c i = [] by rw [HSA1.out, if_neg (fun h => h.2.1 rfl)])
          go_wp2_with (go_at_call 97; refine (H1.out _ rfl _).mono ?_; rintro e w' ⟨rfl, hw'⟩; rw [hw']; clear hw' w')
          refine ⟨⟨i + 1, m, A2, c2, by omega, by rw [HS1.out, HE.out, List.append_nil]; exact HM.out, by go_num, rfl, by rw [HS1.out, HE.out, List.append_nil]; exact HO.out, HB.out⟩, by simp [intOf] <;> omega⟩
        · have hne : ((z.toNat : Int) = 49) = False := by
            rw [eq_iff_iff]
            simp only [iff_false]
            intro e
            exact h2 (UInt8.toNat_inj.1 (by simpa using (by omega : z.toNat = 49)))
          have hneb : ((z.toNat : Int) == 49) = false := by rw [beq_eq_false_iff_ne]; intro e; exact (of_eq_false hne) e
          rename World => wo
          go_wp2_with (go_at_call 97; refine (H1.out _ rfl _).mono ?_; rintro e w' ⟨rfl, hw'⟩; rw [hw']; clear hw' w')
          go_loopw [6] (fun s6 wr => ∃ k : Nat, k ≤ n ∧ s6 = .int .i64 k ∧ (∀ j, j < k → cyc c (i + j) = 49) ∧ wr = wo) (fun s6 _ => n - (intOf s6).toNat)
          case atStart => exact ⟨0, by omega, rfl, fun j hj => by omega, rfl⟩
          case round =>
            obtain ⟨k, hk, rfl, hall, rfl⟩ := hrel
            have HALL := Lib.hid hall
            clear hall
            by_cases hkn : k < n
            · have hki : (k : Int) < (n : Int) := by omega
              have H2 := Lib.hid (fun (x : Int) (hx : x = (i : Int) + (k : Int)) (W : World) => HA.out (i + k) (by omega) x (by omega) W)
              obtain ⟨v, hv⟩ : ∃ v, cyc c (i + k) = v := ⟨_, rfl⟩
              have HV := Lib.hid hv
              rw [hv] at H2
              clear hv
              by_cases h3 : v = 49
              · subst h3
                go_wp2_with (go_at_call 97; refine (H2.out _ rfl _).mono ?_; rintro e w' ⟨rfl, hw'⟩; rw [hw']; clear hw' w')
                refine ⟨⟨k + 1, by omega, by go_num, fun j hj => ?_, trivial⟩, by simp [intOf] <;> omega⟩
                rcases Nat.lt_succ_iff_lt_or_eq.1 hj with h | rfl
                · exact HALL.out j h
                · exact HV.out
              · have hne3 : ((v.toNat : Int) = 49) = False := by
                  rw [eq_iff_iff]
                  simp only [iff_false]
                  intro e
                  exact h3 (UInt8.toNat_inj.1 (by simpa using (by omega : v.toNat = 49)))
                have hne3b : ((v.toNat : Int) == 49) = false := by rw [beq_eq_false_iff_ne]; intro e; exact (of_eq_false hne3) e
                have HCK := Lib.hid (HCE.out i k hk HALL.out (.inr (by rw [HV.out]; exact h3)))
                by_cases h10 : 10 ≤ k
                · have h10i : ((k : Int) ≥ 10) = True := by simp; omega
                  have h10j : ((10 : Int) ≤ (k : Int)) = True := by simp; omega
                  have HE := Lib.hid (show syncA c i = [(i, k)] by rw [HSA1.out, HCK.out, if_pos ⟨trivial, h2, h10⟩])
                  go_wp2_with (first | (go_at_call 97; refine (H2.out _ rfl _).mono ?_; rintro e w' ⟨rfl, hw'⟩; rw [hw']; clear hw' w') | (at_builtin; refine wpList_pushT (.tmp 43) (.tmp 47) 103 w.heap.size 109 (.agg #[.int .i64 0, .int .i64 0]) [.int .i64 (i : Int), .int .i64 (k : Int)] 2 16 _ m _ HO.out rfl rfl Tryd.underlying103 infoCr rfl (by omega) rfl rfl rfl rfl (by intro u hu; simp at hu; rcases hu with rfl | rfl <;> rfl) (by omega) (by omega) hz ?_; intro A6 c6 w6 ho6 hg6))
                  have hb6 := HB.out.grown hg6 hz (own_lt HO.out)
                  refine ⟨⟨i + 1, m + 1, some A6, c6, by omega, by rw [HS1.out, HE.out, List.length_append, HM.out]; rfl, by go_num, rfl, by rw [HS1.out, HE.out, crsV_append]; exact ho6, hb6⟩, by simp [intOf] <;> omega⟩
                · have h10i : ((k : Int) ≥ 10) = False := by simp; omega
                  have h10j : ((10 : Int) ≤ (k : Int)) = False := by simp; omega
                  have HE := Lib.hid (show syncA c i = [] by rw [HSA1.out, HCK.out, if_neg (fun h => h10 h.2.2)])
                  go_wp2_with (go_at_call 97; refine (H2.out _ rfl _).mono ?_; rintro e w' ⟨rfl, hw'⟩; rw [hw']; clear hw' w')
                  refine ⟨⟨i + 1, m, A2, c2, by omega, by rw [HS1.out, HE.out, List.append_nil]; exact HM.out, by go_num, rfl, by rw [HS1.out, HE.out, List.append_nil]; exact HO.out, HB.out⟩, by simp [intOf] <;> omega⟩
            · obtain rfl : k = n := by omega
              have HCK := Lib.hid (HCE.out i k hk HALL.out (.inl rfl))
              by_cases h10 : 10 ≤ k
              · have h10i : ((k : Int) ≥ 10) = True := by simp; omega
                have h10j : ((10 : Int) ≤ (k : Int)) = True := by simp; omega
                have HE := Lib.hid (show syncA c i = [(i, k)] by rw [HSA1.out, HCK.out, if_pos ⟨trivial, h2, h10⟩])
                go_wp2_with (at_builtin; refine wpList_pushT (.tmp 43) (.tmp 47) 103 w.heap.size 109 (.agg #[.int .i64 0, .int .i64 0]) [.int .i64 (i : Int), .int .i64 (k : Int)] 2 16 _ m _ HO.out rfl rfl Tryd.underlying103 infoCr rfl (by omega) rfl rfl rfl rfl (by intro u hu; simp at hu; rcases hu with rfl | rfl <;> rfl) (by omega) (by omega) hz ?_; intro A6 c6 w6 ho6 hg6)
                have hb6 := HB.out.grown hg6 hz (own_lt HO.out)
                refine ⟨⟨i + 1, m + 1, some A6, c6, by omega, by rw [HS1.out, HE.out, List.length_append, HM.out]; rfl, by go_num, rfl, by rw [HS1.out, HE.out, crsV_append]; exact ho6, hb6⟩, by simp [intOf] <;> omega⟩
              · have h10i : ((k : Int) ≥ 10) = False := by simp; omega
                have h10j : ((10 : Int) ≤ (k : Int)) = False := by simp; omega
                have HE := Lib.hid (show syncA c i = [] by rw [HSA1.out, HCK.out, if_neg (fun h => h10 h.2.2)])
                go_wp2_with fail
                refine ⟨⟨i + 1, m, A2, c2, by omega, by rw [HS1.out, HE.out, List.append_nil]; exact HM.out, by go_num, rfl, by rw [HS1.out, HE.out, List.append_nil]; exact HO.out, HB.out⟩, by simp [intOf] <;> omega⟩
      · have HE := Lib.hid (show syncA c i = [] by rw [HSA1.out, if_neg (fun h => h1 h.1)])
        have hne : ((y.toNat : Int) != 49) = true := by
          rw [bne_iff_ne]
          intro e
          exact h1 (UInt8.toNat_inj.1 (by simpa using (by omega : y.toNat = 49)))
        have hne2 : ((y.toNat : Int) = 49) = False := by
          rw [eq_iff_iff]
          simp only [iff_false]
          intro e
          exact h1 (UInt8.toNat_inj.1 (by simpa using (by omega : y.toNat = 49)))
        go_wp2_with (go_at_call 97; refine (H1.out _ rfl _).mono ?_; rintro e w' ⟨rfl, hw'⟩; rw [hw']; clear hw' w')
        refine ⟨⟨i + 1, m, A2, c2, by omega, by rw [HS1.out, HE.out, List.append_nil]; exact HM.out, by go_num, rfl, by rw [HS1.out, HE.out, List.append_nil]; exact HO.out, HB.out⟩, by simp [intOf] <;> omega⟩
    · obtain rfl : i = n := by omega
      go_wp2_with fail
      go_ret
      have hm := HM.out
      subst hm
      exact ⟨A2, c2, rfl, HO.out, HB.out⟩
end Go.Proofs.YtabmdbhbbmnkdaaDoor
