/-
  Revolutions: the law's own choices and comparisons.
-/
import Derived.Test.YtabmdbhbbmnkdaaDoorVoP
import Derived.Test.YtabmdbhbbmnkdaaDoorBsM
import Derived.Deep.QuietTactic
import Derived.BigQuiet
namespace Go.Proofs.YtabmdbhbbmnkdaaDoor
open Go Go.ChangeShapes Go.WideShapes Go.ChangeAt Go.RowKit Go.Joins lib
set_option linter.unusedVariables false
set_option linter.unusedSimpArgs false
set_option maxRecDepth 100000
theorem d8At_any (A : Option Addr) (n c : Nat) (u : Nat → UInt8) (k : Nat) (m : Nat) (hm1 : 1 ≤ m) (hm : m ≤ 100000) (hk : k ≤ 100000) (hn : n ≤ 1048576) (x y : Int) (hx : x = k) (hy : y = m) (w : World) (hs : Sl w w.heap.size A n (fun i => .int .u8 ((u i).toNat : Int))) :
    Calls Tryd.prog 8 #[.slice A n c, .int .i64 x, .int .i64 y] w fun e w' => ∃ v : Nat, v < m ∧ e = .returned (.int .i64 (v : Int)) ∧ w' = w := by
  have HS := Lib.hid hs
  subst hx
  subst hy
  clear hs
  by_cases h0 : k < n
  · by_cases hm2 : m ≤ 1
    · have t1 : ((m : Int) ≤ 1) = True := by simp; omega
      go_enter Tryd.func8, Tryd.ntmps8
      go_wp2_with fail
      go_ret
      exact ⟨0, by omega, rfl, rfl⟩
    · have t1 : ((m : Int) ≤ 1) = False := by simp; omega
      have tz : ((m : Int) = 0) = False := by simp; omega
      have hki : (k : Int) < (n : Int) := by omega
      obtain ⟨b, o, rfl, hbb, hc⟩ := HS.out k h0
      obtain ⟨p, hp⟩ : ∃ p : UInt8, u k = p := ⟨_, rfl⟩
      simp only [hp] at hc
      have hpl := p.toNat_lt
      by_cases h1 : k + 1 < n
      · have hki2 : (k : Int) + 1 < (n : Int) := by omega
        obtain ⟨b', o', e, _, hc2⟩ := HS.out (k + 1) h1
        simp only [Option.some.injEq, Addr.mk.injEq] at e
        obtain ⟨rfl, rfl, _⟩ := e
        obtain ⟨q, hq⟩ : ∃ q : UInt8, u (k + 1) = q := ⟨_, rfl⟩
        simp only [hq] at hc2
        have hql := q.toNat_lt
        obtain ⟨k1, hk1⟩ : ∃ k1 : Nat, k + 1 = k1 := ⟨_, rfl⟩
        have hk1i : (k : Int) + 1 = (k1 : Int) := by omega
        rw [hk1] at hc2
        have hkn1 : (k1 : Int) < (n : Int) := by omega
        have ht2 : Int.tmod (256 * (p.toNat : Int) + (q.toNat : Int)) (m : Int) = (((256 * p.toNat + q.toNat) % m : Nat) : Int) := by
          rw [Int.tmod_eq_emod_of_nonneg (by omega)]
          simp
        have hlt : (256 * p.toNat + q.toNat) % m < m := Nat.mod_lt _ (by omega)
        obtain ⟨z, hz⟩ : ∃ z, (256 * p.toNat + q.toNat) % m = z := ⟨_, rfl⟩
        rw [hz] at ht2 hlt
        have ht3 : (256 * (p.toNat : Int) + (q.toNat : Int)) % (m : Int) = (z : Int) := by rw [← ht2, Int.tmod_eq_emod_of_nonneg (by omega)]
        clear hz hp hq hk1 HS hki2
        go_enter Tryd.func8, Tryd.ntmps8
        go_wp2_with fail
        go_ret
        exact ⟨z, hlt, rfl, rfl⟩
      · have hki2 : ¬ (k : Int) + 1 < (n : Int) := by omega
        have ht2 : Int.tmod (p.toNat : Int) (m : Int) = ((p.toNat % m : Nat) : Int) := by
          rw [Int.tmod_eq_emod_of_nonneg (by omega)]
          simp
        have hlt : p.toNat % m < m := Nat.mod_lt _ (by omega)
        obtain ⟨z, hz⟩ : ∃ z, p.toNat % m = z := ⟨_, rfl⟩
        rw [hz] at ht2 hlt
        have ht3 : (p.toNat : Int) % (m : Int) = (z : Int) := by rw [← ht2, Int.tmod_eq_emod_of_nonneg (by omega)]
        clear hz hp HS
        go_enter Tryd.func8, Tryd.ntmps8
        go_wp2_with fail
        go_ret
        exact ⟨z, hlt, rfl, rfl⟩
  · have hki : ¬ (k : Int) < (n : Int) := by omega
    by_cases hm2 : m ≤ 1
    · have t1 : ((m : Int) ≤ 1) = True := by simp; omega
      go_enter Tryd.func8, Tryd.ntmps8
      go_wp2_with fail
      go_ret
      exact ⟨0, by omega, rfl, rfl⟩
    · have t1 : ((m : Int) ≤ 1) = False := by simp; omega
      have t2 : ((n : Int) ≤ (k : Int)) = True := by simp; omega
      go_enter Tryd.func8, Tryd.ntmps8
      go_wp2_with fail
      go_ret
      exact ⟨0, by omega, rfl, rfl⟩
theorem d8Same_true (L : List Nat) (A B : Option Addr) (c d : Nat) (w : World) (hn : L.length ≤ 1048576) (hs : Sl w w.heap.size A L.length (fun i => .int .i64 ((L.getD i 0 : Nat) : Int))) (ht : Sl w w.heap.size B L.length (fun i => .int .i64 ((L.getD i 0 : Nat) : Int))) :
    Calls Tryd.prog 12 #[.slice A L.length c, .slice B L.length d] w fun e w' => e = .returned (.bool true) ∧ Below w.heap.size w w' := by
  have HS := Lib.hid hs
  have HT := Lib.hid ht
  obtain ⟨n, hn'⟩ : ∃ n, L.length = n := ⟨_, rfl⟩
  rw [hn'] at HS HT hn ⊢
  clear hs ht hn'
  go_enter Tryd.func12, Tryd.ntmps12
  go_wp2_with fail
  go_loopw [5] (fun s5 wr => ∃ k m : Nat, k ≤ n ∧ s5 = .int .i64 k ∧ wr = w.drewN m) (fun s5 _ => n - (intOf s5).toNat)
  case atStart => exact ⟨0, 0, by omega, rfl, rfl⟩
  case round =>
    obtain ⟨k, m, hk, rfl, hwr⟩ := hrel
    have HWR := Lib.hid hwr
    by_cases hlt : k < n
    · have hki : (k : Int) < (n : Int) := by omega
      have hs' : Sl wr w.heap.size A n (fun i => .int .i64 ((L.getD i 0 : Nat) : Int)) := by rw [hwr]; exact HS.out
      have ht' : Sl wr w.heap.size B n (fun i => .int .i64 ((L.getD i 0 : Nat) : Int)) := by rw [hwr]; exact HT.out
      obtain ⟨b, o, rfl, hbb, hc⟩ := hs' k hlt
      obtain ⟨b', o', rfl, hbb', hc'⟩ := ht' k hlt
      simp only at hc hc'
      obtain ⟨x, hx⟩ : ∃ x, L.getD k 0 = x := ⟨_, rfl⟩
      rw [hx] at hc hc'
      clear hx hwr hs' ht'
      go_wp2_with fail
      go_quiet (fail)
      go_wp2_with fail
      exact ⟨⟨k + 1, m + nq, by omega, by go_num, by rw [HWR.out, World.drewN_drewN]⟩, by simp [intOf] <;> omega⟩
    · obtain rfl : k = n := by omega
      clear hwr
      go_wp2_with fail
      go_ret
      exact ⟨rfl, by rw [HWR.out]; exact (Below.refl _ _).drewN m⟩
theorem bstr_set (l : List UInt8) (i : Nat) (y : UInt8) : bstr l.length (upd (byteAt (strL l)) i y) = strL (l.set i y) := by
  unfold bstr strL
  congr 2
  apply List.ext_getElem?
  intro k
  rw [List.getElem?_set]
  by_cases hk : k < l.length
  · rw [List.getElem?_map, List.getElem?_range hk]
    simp only [Option.map_some]
    by_cases e : i = k
    · subst e
      rw [if_pos rfl, if_pos hk, upd_same]
    · rw [if_neg e, upd_other _ _ (Ne.symm e)]
      rw [List.getElem?_eq_getElem hk]
      unfold byteAt
      simp [hk]
  · rw [List.getElem?_eq_none (by simp; omega)]
    by_cases e : i = k
    · subst e
      rw [if_pos rfl, if_neg hk]
    · rw [if_neg e, List.getElem?_eq_none (by omega)]
set_option maxHeartbeats 4000000 in
theorem d8Flip_any (l : List UInt8) (hc : CellL l) (hl : l.length ≤ 8000) (i : Nat) (hi : i < l.length) (x : Int) (hx : x = i) (w : World) : Calls Tryd.prog 9 #[.string (strL l), .int .i64 x] w fun e w' => e = .returned (.string (strL (l.set i (flipY (l.getD i 0))))) ∧ Below w.heap.size w w' := by
  subst hx
  have hy := byteAt_strL l i
  have hyc := cell_of hc hi
  have HBS := Lib.hid (fun y => bstr_set l i y)
  have hsz : (strL l).size = l.length := strL_size l
  obtain ⟨y, hyy⟩ : ∃ y, l.getD i 0 = y := ⟨_, rfl⟩
  rw [hyy] at hy hyc ⊢
  obtain ⟨S, hS⟩ : ∃ S, strL l = S := ⟨_, rfl⟩
  obtain ⟨n, hn⟩ : ∃ n, l.length = n := ⟨_, rfl⟩
  rw [hS] at hy hsz HBS ⊢
  rw [hn] at hl hi hsz HBS
  obtain ⟨T, hT⟩ : ∃ T, strL (l.set i (flipY y)) = T := ⟨_, rfl⟩
  have HT := Lib.hid (show bstr n (upd (byteAt S) i (flipY y)) = T by rw [HBS.out, hT])
  rw [hT]
  have cvt : ∀ W : World, (convert 9 22 (.string S)).run Tryd.prog W = .ok (.slice (some ⟨W.heap.size, 0, none⟩) S.size (grownCap W S.size 0 5)) (W.drew.alloc (.cells (bytesRow S (grownCap W S.size 0 5)) 5 ((bytesRow S (grownCap W S.size 0 5)).size, (bytesRow S (grownCap W S.size 0 5)).size + 1))) :=
    fun W => run_bytes_of_string W 9 22 5 S Tryd.underlying9 Tryd.underlying22 Tryd.underlying5
  rw [hsz] at cvt
  have HROW := Lib.hid (by have := bRow_bytes w 5 S (grownCap w n 0 5); rw [hsz] at this; exact this.drew)
  have HB2 := Lib.hid (((Below.refl w.heap.size w).alloc (Nat.le_refl _) (.cells (bytesRow S (grownCap w n 0 5)) 5 ((bytesRow S (grownCap w n 0 5)).size, (bytesRow S (grownCap w n 0 5)).size + 1))).drew)
  have HY := Lib.hid hy
  have hii : (i : Int) < (n : Int) := by omega
  clear hyy hS hn hT hc hy
  go_enter Tryd.func9, Tryd.ntmps9
  go_upto_region 2 with fail
  obtain ⟨cp, hcp⟩ : ∃ x, grownCap w n 0 5 = x := ⟨_, rfl⟩
  have hcpn : n ≤ cp := by rw [← hcp]; exact grownCap_ge _ _ _ _
  rw [hcp] at HROW HB2
  try rw [hcp]
  clear cvt hcp
  obtain ⟨g, hg⟩ : ∃ g, w.heap.size = g := ⟨_, rfl⟩
  have HG := Lib.hid hg
  rw [hg] at HROW HB2
  try rw [hg]
  clear hg
  generalize (w.alloc (.cells (bytesRow S cp) 5 ((bytesRow S cp).size, (bytesRow S cp).size + 1))).drew = W2 at *
  have c3 := HROW.out.cell hi
  rw [HY.out] at c3
  have f3 := HROW.out.frozen hi
  have HR3 := Lib.hid (HROW.out.set (i := i) (flipY y) rfl)
  have hcv : ∀ W : World, BRow W 5 g n (upd (byteAt S) i (flipY y)) → (convert 22 9 (.slice (some ⟨g, 0, none⟩) n cp)).run Tryd.prog W = .ok (.string T) W := fun W hW => by
    rw [run_bstr (P := Tryd.prog) (w := W) (B := W.heap.size) (c := cp) 22 9 5 Tryd.underlying22 Tryd.underlying5 Tryd.underlying9 (u := upd (byteAt S) i (flipY y)) hW.sl (by simp), HT.out]
  have HCV := Lib.hid hcv
  clear hcv
  rcases hyc with rfl | rfl
  · have h1 := HCV.out (W2.setCell ⟨g, i, none⟩ (.int .u8 49)) (by rw [flip48]; exact HROW.out.set (i := i) 49 (y := 49) rfl)
    go_wp2_with fail
    go_ret
    exact ⟨rfl, by rw [HG.out]; exact HB2.out.setCell (p := ⟨g, i, none⟩) (Nat.le_refl _) _⟩
  · have h1 := HCV.out (W2.setCell ⟨g, i, none⟩ (.int .u8 48)) (by rw [flip49]; exact HROW.out.set (i := i) 48 (y := 48) rfl)
    go_wp2_with fail
    go_ret
    exact ⟨rfl, by rw [HG.out]; exact HB2.out.setCell (p := ⟨g, i, none⟩) (Nat.le_refl _) _⟩
end Go.Proofs.YtabmdbhbbmnkdaaDoor
