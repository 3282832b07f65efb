/-
  Marks: a pattern's places on a circle of cells (the reference's).
-/
import Derived.Test.YtabmdbhbbmnkdaaDoorBsM
import Derived.Test.YtabmdbhbbmnkdaaDoorVoI
import Derived.Test.YtabmdbhbbmnkdaaDoorTkL
import Derived.Test.YtabmdbhbbmnkdaaDoorAppR
import Derived.Deep.QuietTactic
import Derived.BigQuiet
namespace Go.Proofs.YtabmdbhbbmnkdaaDoor
open Go Go.ChangeShapes Go.WideShapes Go.ChangeAt Go.RowKit Go.Joins lib
set_option linter.unusedVariables false
set_option linter.unusedSimpArgs false
set_option maxRecDepth 100000
def fitsU (c p : List UInt8) (at' : Nat) : Bool := (List.range p.length).all fun i => cyc c (at' + i) == p.getD i 0
def findU (c p : List UInt8) (n : Nat) : List Nat := (List.range n).filter (fitsU c p)
theorem findU_succ (c p : List UInt8) (i : Nat) : findU c p (i + 1) = findU c p i ++ (if fitsU c p i then [i] else []) := by
  unfold findU
  rw [List.range_succ, List.filter_append]
  cases h : fitsU c p i <;> simp [h]
theorem findU_len (c p : List UInt8) (i : Nat) : (findU c p i).length ≤ i := by
  unfold findU
  have := List.length_filter_le (fitsU c p) (List.range i)
  rwa [List.length_range] at this
theorem fitsU_true {c p : List UInt8} {a : Nat} (h : ∀ j, j < p.length → cyc c (a + j) = p.getD j 0) : fitsU c p a = true := by
  unfold fitsU
  rw [List.all_eq_true]
  intro j hj
  rw [List.mem_range] at hj
  rw [h j hj]
  simp
theorem fitsU_false {c p : List UInt8} {a j : Nat} (hj : j < p.length) (h : cyc c (a + j) ≠ p.getD j 0) : fitsU c p a = false := by
  rw [Bool.eq_false_iff]
  intro e
  unfold fitsU at e
  rw [List.all_eq_true] at e
  have := e j (List.mem_range.2 hj)
  exact h (by simpa using this)
theorem l07At_any (c : List UInt8) (hn : 1 ≤ c.length) (hm : c.length ≤ 8000) (k : Nat) (hk : k ≤ 100000) (x : Int) (hx : x = k) (w : World) : Calls Tryd.prog 97 #[.string (strL c), .int .i64 x] w fun e w' => e = .returned (.int .u8 ((cyc c k).toNat : Int)) ∧ w' = w := by
  subst hx
  have hlt : k % c.length < c.length := Nat.mod_lt _ (by omega)
  have hy := byteAt_strL c (k % c.length)
  have hcy : cyc c k = c.getD (k % c.length) 0 := rfl
  rw [← hcy] at hy
  obtain ⟨y, hyy⟩ : ∃ y, cyc c k = y := ⟨_, rfl⟩
  rw [hyy] at hy ⊢
  have hsz : (strL c).size = c.length := strL_size c
  have ht2 : Int.tmod (k : Int) (c.length : Int) = ((k % c.length : Nat) : Int) := by
    rw [Int.tmod_eq_emod_of_nonneg (by omega)]
    simp
  obtain ⟨S, hS⟩ : ∃ S, strL c = S := ⟨_, rfl⟩
  obtain ⟨n, hn'⟩ : ∃ n, c.length = n := ⟨_, rfl⟩
  rw [hS] at hsz hy
  rw [hn'] at hsz hy hlt ht2 hn hm
  rw [hS]
  obtain ⟨z, hz⟩ : ∃ z, k % n = z := ⟨_, rfl⟩
  rw [hz] at hy hlt ht2
  have hzs : z < S.size := by omega
  have hgt := byteAt_get S z hzs
  rw [hy] at hgt
  have ht3 : (k : Int) % (n : Int) = (z : Int) := by rw [← ht2, Int.tmod_eq_emod_of_nonneg (by omega)]
  have tz : ((n : Int) = 0) = False := by simp; omega
  have hzi : (z : Int) < (n : Int) := by omega
  clear hcy hyy hS hn' hz hy
  go_enter Tryd.func97, Tryd.ntmps97
  go_wp2_with fail
  go_ret
  exact ⟨rfl, rfl⟩
theorem l07Fits_any (c p : List UInt8) (hn : 1 ≤ c.length) (hm : c.length ≤ 8000) (hp : p.length ≤ 100) (a : Nat) (ha : a ≤ 50000) (x : Int) (hx : x = a) (w : World) : Calls Tryd.prog 69 #[.string (strL c), .string (strL p), .int .i64 x] w fun e w' => e = .returned (.bool (fitsU c p a)) ∧ Below w.heap.size w w' := by
  subst hx
  have HA := Lib.hid (fun (k : Nat) (hk : k ≤ 100000) (x : Int) (hx : x = k) (W : World) => l07At_any c hn hm k hk x hx W)
  have hsz : (strL p).size = p.length := strL_size p
  have HP := Lib.hid (byteAt_strL p)
  have HT := Lib.hid (fitsU_true (c := c) (p := p) (a := a))
  have HF := Lib.hid (fun j => fitsU_false (c := c) (p := p) (a := a) (j := j))
  obtain ⟨S, hS⟩ : ∃ S, strL p = S := ⟨_, rfl⟩
  obtain ⟨C, hC⟩ : ∃ S, strL c = S := ⟨_, rfl⟩
  obtain ⟨m, hm'⟩ : ∃ n, p.length = n := ⟨_, rfl⟩
  rw [hS] at hsz HP
  rw [hC] at HA
  rw [hm'] at hsz hp HT HF
  rw [hS, hC]
  clear hS hC hm'
  go_enter Tryd.func69, Tryd.ntmps69
  go_wp2_with fail
  go_loopw [7] (fun s7 wr => ∃ k q : Nat, k ≤ m ∧ s7 = .int .i64 k ∧ wr = w.drewN q ∧ ∀ j, j < k → cyc c (a + j) = p.getD j 0) (fun s7 _ => m - (intOf s7).toNat)
  case atStart => exact ⟨0, 0, by omega, rfl, rfl, fun j hj => by omega⟩
  case round =>
    obtain ⟨k, q, hk, rfl, hwr, hall⟩ := hrel
    have HWR := Lib.hid hwr
    have HALL := Lib.hid hall
    clear hwr hall
    by_cases hlt : k < m
    · have hki : (k : Int) < (m : Int) := by omega
      have H1 := Lib.hid (fun (x : Int) (hx : x = (a : Int) + (k : Int)) (W : World) => HA.out (a + k) (by omega) x (by omega) W)
      have hy := HP.out k
      have HF1 := Lib.hid (HF.out k hlt)
      obtain ⟨y, hyy⟩ : ∃ y, p.getD k 0 = y := ⟨_, rfl⟩
      have HY := Lib.hid hyy
      rw [hyy] at hy HF1
      have hgt := byteAt_get S k (by omega)
      rw [hy] at hgt
      obtain ⟨z, hz⟩ : ∃ z, cyc c (a + k) = z := ⟨_, rfl⟩
      have HZ := Lib.hid hz
      rw [hz] at H1 HF1
      clear hyy hy hz
      by_cases he : z = y
      · subst he
        go_wp2_with fail
        go_quiet ((go_at_call 97; exact Calls.quiet_of_same (H1.out _ rfl _)))
        go_wp2_with fail
        refine ⟨⟨k + 1, q + nq, by omega, by go_num, by rw [HWR.out, World.drewN_drewN], fun j hj => ?_⟩, by simp [intOf] <;> omega⟩
        rcases Nat.lt_succ_iff_lt_or_eq.1 hj with h | rfl
        · exact HALL.out j h
        · rw [HZ.out, HY.out]
      · have hne : ((z.toNat : Int) != (y.toNat : Int)) = true := by
          rw [bne_iff_ne]
          intro e
          exact he (UInt8.toNat_inj.1 (by omega))
        have hne2 : ((z.toNat : Int) = (y.toNat : Int)) = False := by
          rw [eq_iff_iff]
          simp only [iff_false]
          intro e
          exact he (UInt8.toNat_inj.1 (by omega))
        have HFF := Lib.hid (HF1.out he)
        clear he
        go_wp2_with fail
        go_quiet ((go_at_call 97; exact Calls.quiet_of_same (H1.out _ rfl _)))
        go_wp2_with fail
        go_ret
        exact ⟨congrArg (fun b : Bool => Ending.returned (Value.bool b)) HFF.out.symm, by rw [HWR.out]; exact ((Below.refl _ _).drewN q).drewN nq⟩
    · obtain rfl : k = m := by omega
      go_wp2_with fail
      go_ret
      exact ⟨congrArg (fun b : Bool => Ending.returned (Value.bool b)) (HT.out HALL.out).symm, by rw [HWR.out]; exact (Below.refl _ _).drewN q⟩
def FindOut (c p : List UInt8) (w w' : World) (e : Ending) : Prop := ∃ A2 c2, e = .returned (.slice A2 (findU c p c.length).length c2) ∧ w'.ownsRow w.heap.size 2 1 (.slice A2 (findU c p c.length).length c2) (findU c p c.length).length (natV (findU c p c.length)) ∧ Below w.heap.size w w'
theorem l07Find_any (c p : List UInt8) (hn : 1 ≤ c.length) (hm : c.length ≤ 8000) (hp : p.length ≤ 100) (w : World) : Calls Tryd.prog 67 #[.string (strL c), .string (strL p)] w fun e w' => FindOut c p w w' e := by
  have HF := Lib.hid (fun (a : Nat) (ha : a ≤ 50000) (W : World) => l07Fits_any c p hn hm hp a ha (a : Int) rfl W)
  have HSU := Lib.hid (findU_succ c p)
  have HL := Lib.hid (findU_len c p)
  have hsz : (strL c).size = c.length := strL_size c
  unfold FindOut
  obtain ⟨S, hS⟩ : ∃ S, strL p = S := ⟨_, rfl⟩
  obtain ⟨C, hC⟩ : ∃ S, strL c = S := ⟨_, rfl⟩
  obtain ⟨n, hn'⟩ : ∃ n, c.length = n := ⟨_, rfl⟩
  rw [hS, hC] at HF
  rw [hC, hn'] at hsz
  rw [hn'] at hm
  rw [hS, hC, hn']
  clear hS hC hn' hn
  go_enter Tryd.func67, Tryd.ntmps67
  go_wp2_with fail
  go_loopw [5, 6] (fun s5 s6 wr => ∃ (i m : Nat) (A2 : Option Addr) (c2 : Nat), i ≤ n ∧ (findU c p i).length = m ∧ s6 = .int .i64 i ∧ s5 = .slice A2 m c2 ∧ wr.ownsRow w.heap.size 2 1 (.slice A2 m c2) m (natV (findU c p i)) ∧ Below w.heap.size w wr) (fun _ s6 _ => n - (intOf s6).toNat)
  case atStart =>
    refine ⟨0, 0, some ⟨w.heap.size, 0, none⟩, 0, by omega, rfl, rfl, rfl, ?_, ?_⟩
    · exact own_nilE w 2 1 w.heap.size (Nat.le_refl _)
    · exact (Below.refl _ _).alloc (Nat.le_refl _) _
  case round =>
    obtain ⟨i, m, A2, c2, hi, hm2, rfl, rfl, ho, hb⟩ := hrel
    have HM := Lib.hid hm2
    have HO := Lib.hid ho
    have HB := Lib.hid hb
    have hz := hb.size
    have hml := HL.out i
    rw [hm2] at hml
    clear hm2 ho hb
    by_cases hlt : i < n
    · have hii : (i : Int) < (n : Int) := by omega
      have H1 := Lib.hid (HF.out i (by omega) wr)
      have HS1 := Lib.hid (HSU.out i)
      obtain ⟨b, hbb⟩ : ∃ b, fitsU c p i = b := ⟨_, rfl⟩
      rw [hbb] at H1 HS1
      clear hbb
      cases b
      · go_wp2_with (go_at_call 69; refine H1.out.mono ?_; rintro e w1 ⟨rfl, hb1⟩)
        refine ⟨⟨i + 1, m, A2, c2, by omega, ?_, by go_num, rfl, ?_, HB.out.trans (hb1.mono hz)⟩, by simp [intOf] <;> omega⟩
        · rw [HS1.out, List.length_append, HM.out]; rfl
        · rw [HS1.out]
          simpa using own_below HO.out hb1
      · go_wp2_with (first
          | (go_at_call 69; refine H1.out.mono ?_; rintro e w1 ⟨rfl, hb1⟩; have HO9 := Lib.hid (own_below HO.out hb1); have HB9 := Lib.hid (HB.out.trans (hb1.mono hz)); clear hb1)
          | (at_builtin; refine wpList_push (.tmp 18) (.tmp 20) 30 w.heap.size 2 (.int .i64 0) (.int .i64 (i : Int)) 8 _ m _ HO9.out rfl rfl Tryd.underlying30 infoI64 rfl rfl rfl rfl rfl (by omega) (by omega) HB9.out.size ?_; intro A6 c6 w6 ho6 hb6))
        refine ⟨⟨i + 1, m + 1, some A6, c6, by omega, ?_, by go_num, rfl, ?_, HB9.out.trans hb6⟩, by simp [intOf] <;> omega⟩
        · rw [HS1.out, List.length_append, HM.out]; rfl
        · rw [HS1.out]
          unfold natV at *
          simp only [if_true, List.map_append]
          exact ho6
    · obtain rfl : i = n := by omega
      go_wp2_with fail
      go_ret
      have hm := HM.out
      subst hm
      exact ⟨A2, c2, rfl, HO.out, HB.out⟩
end Go.Proofs.YtabmdbhbbmnkdaaDoor
