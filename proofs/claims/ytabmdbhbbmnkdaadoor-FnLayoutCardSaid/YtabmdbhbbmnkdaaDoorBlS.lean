/-
  The laws' own helpers on a track's description.
-/
import Derived.Test.YtabmdbhbbmnkdaaDoorBsB
import Derived.Deep.MidRow
namespace Go.Proofs.YtabmdbhbbmnkdaaDoor
open Go Go.ChangeShapes Go.WideShapes Go.ChangeAt Go.RowKit Go.Joins lib
set_option linter.unusedVariables false
set_option linter.unusedSimpArgs false
set_option maxRecDepth 100000
theorem szSec_any (S : SS) (l : Int) (w : World) (h0 : 0 ≤ l) (hl : l ≤ 1048576) (hd : S.dt.size ≤ 9223372036854775807) (r : Int) (hr : r = if (S.dt.size : Int) ≤ l then l - S.dt.size else -1) :
    Calls Tryd.prog 75 #[S.val, .int .i64 l] w fun e w' => e = .returned (.int .i64 r) ∧ Below w.heap.size w w' := by
  unfold SS.val SS.cells
  obtain ⟨cy, hdd, no, sz, dt, dl, bi, bd⟩ := S
  simp only at *
  by_cases h : (dt.size : Int) ≤ l
  · rw [if_pos h] at hr
    subst hr
    go_enter Tryd.func75, Tryd.ntmps75
    go_wp2
    go_ret
    exact ⟨rfl, (Below.refl _ _).alloc (Nat.le_refl _) _⟩
  · rw [if_neg h] at hr
    subst hr
    go_enter Tryd.func75, Tryd.ntmps75
    go_wp2
    go_ret
    exact ⟨rfl, (Below.refl _ _).alloc (Nat.le_refl _) _⟩
def dtA (L : List SS) (i : Nat) : ByteArray := (sAt L i).dt
theorem szSecS_ok (L : List SS) (A : Option Addr) (c : Nat) (w : World) (hs : SSl w w.heap.size A L) (h : L.length + tot (dtA L) L.length ≤ 1048576) :
    Calls Tryd.prog 40 #[.slice A L.length c, .int .i64 1048576] w fun e w' => e = .returned (.int .i64 (1048576 - (L.length : Int) - (tot (dtA L) L.length : Nat))) ∧ Below w.heap.size w w' := by
  have HS := Lib.hid hs
  obtain ⟨n, hn⟩ : ∃ n, L.length = n := ⟨_, rfl⟩
  have HN := Lib.hid hn
  rw [hn] at h ⊢
  clear hs hn
  go_enter Tryd.func40, Tryd.ntmps40
  go_wp2
  go_loopw [1, 5] (fun s1 s5 wr => ∃ k : Nat, k ≤ n ∧ s5 = .int .i64 k ∧ s1 = .int .i64 (1048576 - (n : Int) - (tot (dtA L) k : Nat)) ∧ Below w.heap.size w wr) (fun _ i _ => n - (intOf i).toNat)
  case atStart => exact ⟨0, by omega, rfl, by simp [tot], Below.refl _ _⟩
  case round =>
    obtain ⟨k, hk, rfl, rfl, hb⟩ := hrel
    have hz := hb.size
    have HB := Lib.hid hb
    by_cases hlt : k < n
    · have hkL : k < L.length := by rw [HN.out]; exact hlt
      obtain ⟨b, o, rfl, hbb, c0, c1, c2, c3, c4, c5, c6, c7⟩ := (HS.out.below hb).elem hkL
      have hm := tot_mono (dtA L) (show k + 1 ≤ n by omega)
      have ht : tot (dtA L) (k + 1) = tot (dtA L) k + (sAt L k).dt.size := rfl
      obtain ⟨t, htt⟩ : ∃ t, t = tot (dtA L) k := ⟨_, rfl⟩
      obtain ⟨t2, ht2⟩ : ∃ t, t = tot (dtA L) (k + 1) := ⟨_, rfl⟩
      obtain ⟨S, hS⟩ : ∃ S, sAt L k = S := ⟨_, rfl⟩
      rw [hS] at c0 c1 c2 c3 c4 c5 c6 c7 ht
      rw [← htt, ← ht2] at ht
      rw [← ht2] at hm
      rw [← htt]
      have HT := Lib.hid ht2
      have hi8 : (k : Int) < (n : Int) := by omega
      have HV := Lib.hid (fun W => szSec_any S (1048576 - (n : Int) - (t : Nat)) W (by omega) (by omega) (by omega) _ rfl)
      have ht' : ((S.dt.size : Int) ≤ 1048576 - (n : Int) - (t : Nat)) := by omega
      rw [if_pos ht'] at HV
      have HE := Lib.hid (show (1048576 : Int) - (n : Int) - (t2 : Nat) = 1048576 - (n : Int) - (t : Nat) - (S.dt.size : Nat) by omega)
      have hpos : (0 : Int) ≤ 1048576 - (n : Int) - (t : Nat) - (S.dt.size : Nat) := by omega
      unfold SS.val SS.cells at HV
      obtain ⟨z, hz'⟩ : ∃ z, S.dt.size = z := ⟨_, rfl⟩
      rw [hz'] at HV hpos HE
      have htb : t ≤ 1048576 := by omega
      have hzb : z ≤ 1048576 := by omega
      clear hS hkL ht2 htt ht ht' hm hb hz'
      go_wp2_with (go_at_call 75; refine (HV.out _).mono ?_; rintro e w1 ⟨rfl, hb1⟩)
      exact ⟨⟨k + 1, by omega, by go_num, by rw [← HT.out, HE.out], HB.out.trans (hb1.mono hz)⟩, by simp [intOf] <;> omega⟩
    · obtain rfl : k = n := by omega
      go_wp2
      go_ret
      exact ⟨rfl, hb⟩
theorem szSecS_over (L : List SS) (A : Option Addr) (c : Nat) (w : World) (hs : SSl w w.heap.size A L) (hn : L.length ≤ 9223372036854775807) (hm : ∀ k, k < L.length → (sAt L k).dt.size ≤ 9223372036854775807) (h : 1048576 < L.length + tot (dtA L) L.length) :
    Calls Tryd.prog 40 #[.slice A L.length c, .int .i64 1048576] w fun e w' => e = .returned (.int .i64 (-1)) ∧ Below w.heap.size w w' := by
  have HS := Lib.hid hs
  have HM := Lib.hid hm
  obtain ⟨n, hn'⟩ : ∃ n, L.length = n := ⟨_, rfl⟩
  have HN := Lib.hid hn'
  rw [hn'] at h hn ⊢
  clear hs hn' hm
  by_cases h0 : 1048576 < n
  · have hi : (1048576 : Int) < (n : Int) := by omega
    go_enter Tryd.func40, Tryd.ntmps40
    go_wp2
    go_ret
    exact ⟨rfl, Below.refl _ _⟩
  · go_enter Tryd.func40, Tryd.ntmps40
    go_wp2
    go_loopw [1, 5] (fun s1 s5 wr => ∃ k : Nat, k ≤ n ∧ n + tot (dtA L) k ≤ 1048576 ∧ s5 = .int .i64 k ∧ s1 = .int .i64 (1048576 - (n : Int) - (tot (dtA L) k : Nat)) ∧ Below w.heap.size w wr) (fun _ i _ => n - (intOf i).toNat)
    case atStart => exact ⟨0, by omega, by simp [tot]; omega, rfl, by simp [tot], Below.refl _ _⟩
    case round =>
      obtain ⟨k, hk, hkl, rfl, rfl, hb⟩ := hrel
      have hz := hb.size
      have HB := Lib.hid hb
      by_cases hlt : k < n
      · have hkL : k < L.length := by rw [HN.out]; exact hlt
        obtain ⟨b, o, rfl, hbb, c0, c1, c2, c3, c4, c5, c6, c7⟩ := (HS.out.below hb).elem hkL
        have ht : tot (dtA L) (k + 1) = tot (dtA L) k + (sAt L k).dt.size := rfl
        have hdk := HM.out k hkL
        obtain ⟨t, htt⟩ : ∃ t, t = tot (dtA L) k := ⟨_, rfl⟩
        obtain ⟨t2, ht2⟩ : ∃ t, t = tot (dtA L) (k + 1) := ⟨_, rfl⟩
        obtain ⟨S, hS⟩ : ∃ S, sAt L k = S := ⟨_, rfl⟩
        rw [hS] at c0 c1 c2 c3 c4 c5 c6 c7 ht hdk
        rw [← htt, ← ht2] at ht
        rw [← htt] at hkl ⊢
        have HT := Lib.hid ht2
        have hi8 : (k : Int) < (n : Int) := by omega
        have HV := Lib.hid (fun W => szSec_any S (1048576 - (n : Int) - (t : Nat)) W (by omega) (by omega) hdk _ rfl)
        unfold SS.val SS.cells at HV
        by_cases hov : n + t2 ≤ 1048576
        · have ht' : ((S.dt.size : Int) ≤ 1048576 - (n : Int) - (t : Nat)) := by omega
          rw [if_pos ht'] at HV
          have HE := Lib.hid (show (1048576 : Int) - (n : Int) - (t2 : Nat) = 1048576 - (n : Int) - (t : Nat) - (S.dt.size : Nat) by omega)
          have hpos : (0 : Int) ≤ 1048576 - (n : Int) - (t : Nat) - (S.dt.size : Nat) := by omega
          obtain ⟨z, hz'⟩ : ∃ z, S.dt.size = z := ⟨_, rfl⟩
          rw [hz'] at HV hpos HE ht
          have htb : t ≤ 1048576 := by omega
          have hzb : z ≤ 1048576 := by omega
          clear hS hkL ht2 htt ht ht' hb hz' h hdk
          go_wp2_with (go_at_call 75; refine (HV.out _).mono ?_; rintro e w1 ⟨rfl, hb1⟩)
          exact ⟨⟨k + 1, by omega, by rw [← HT.out]; exact hov, by go_num, by rw [← HT.out, HE.out], HB.out.trans (hb1.mono hz)⟩, by simp [intOf] <;> omega⟩
        · have ht' : ¬ ((S.dt.size : Int) ≤ 1048576 - (n : Int) - (t : Nat)) := by omega
          rw [if_neg ht'] at HV
          have htb : t ≤ 1048576 := by omega
          clear hS hkL ht2 htt ht ht' hb h hdk
          go_wp2_with (go_at_call 75; refine (HV.out _).mono ?_; rintro e w1 ⟨rfl, hb1⟩)
          go_ret
          exact ⟨rfl, HB.out.trans (hb1.mono hz)⟩
      · obtain rfl : k = n := by omega
        omega
theorem szTrk_any (f g : Int) (L : List SS) (A : Option Addr) (c : Nat) (w : World) (r : Int)
    (h : ∀ W : World, Below w.heap.size w W → Calls Tryd.prog 40 #[.slice A L.length c, .int .i64 1048576] W fun e w' => e = .returned (.int .i64 r) ∧ Below W.heap.size W w') (hr : -1 ≤ r) :
    Calls Tryd.prog 19 #[.agg (trkA f g A L.length c), .int .i64 1048576] w fun e w' => e = .returned (.int .i64 r) ∧ Below w.heap.size w w' := by
  unfold trkA
  have hb : Below w.heap.size w (w.alloc (.cells #[.int .i64 f, .int .i64 g, .slice A L.length c] 52)) := (Below.refl _ _).alloc (Nat.le_refl _) _
  have HB := Lib.hid hb
  have HH := Lib.hid (h _ hb)
  obtain ⟨n, hn⟩ : ∃ n, L.length = n := ⟨_, rfl⟩
  rw [hn] at HH HB ⊢
  clear h hb hn
  by_cases h0 : r < 0
  · obtain rfl : r = -1 := by omega
    go_enter Tryd.func19, Tryd.ntmps19
    go_wp2_with (go_at_call 40; refine HH.out.mono ?_; rintro e w1 ⟨rfl, hb1⟩)
    go_ret
    exact ⟨rfl, HB.out.trans (hb1.mono HB.out.size)⟩
  · have h0' : 0 ≤ r := by omega
    go_enter Tryd.func19, Tryd.ntmps19
    go_wp2_with (go_at_call 40; refine HH.out.mono ?_; rintro e w1 ⟨rfl, hb1⟩)
    go_ret
    exact ⟨rfl, HB.out.trans (hb1.mono HB.out.size)⟩
theorem toSec_any (S : SS) (w : World) : Calls Tryd.prog 76 #[S.val] w fun e w' => e = .returned S.val ∧ Below w.heap.size w w' := by
  unfold SS.val SS.cells
  obtain ⟨cy, hdd, no, sz, dt, dl, bi, bd⟩ := S
  simp only
  go_enter Tryd.func76, Tryd.ntmps76
  go_wp2
  exact bodyPost_ret (v := .agg #[.int .i64 cy, .int .i64 hdd, .int .i64 no, .int .i64 sz, .string dt, .bool dl, .bool bi, .bool bd]) (by simp [results, Tryd.results76, go_sem]) rfl ⟨rfl, by
    repeat (first | exact Below.refl _ _ | refine Below.setCell ?_ (by simp) _ | refine Below.alloc ?_ (by simp <;> omega) _)⟩
theorem infoSS : (Tryd.prog.info? 44).map (fun i => (i.zero, i.size, i.bytes)) = some (some (.agg #[.int .i64 0, .int .i64 0, .int .i64 0, .int .i64 0, .string .empty, .bool false, .bool false, .bool false]), 8, 56) := by kernel_rfl
def secF (L : List SS) (i : Nat) : Value := (sAt L (i / 8)).cells.getD (i % 8) undef
theorem secF_at (L : List SS) (k j : Nat) (hj : j < 8) : secF L (k * 8 + j) = (sAt L k).cells.getD j undef := by
  unfold secF
  rw [show (k * 8 + j) / 8 = k by omega, show (k * 8 + j) % 8 = j by omega]
theorem eight_more {cur : Array Value} {f : Nat → Value} {k : Nat} {x0 x1 x2 x3 x4 x5 x6 x7 : Value} (h : ∀ i, i < k * 8 → cur[i]? = some (f i)) (hs : k * 8 + 7 < cur.size) (h0 : x0 = f (k * 8)) (h1 : x1 = f (k * 8 + 1)) (h2 : x2 = f (k * 8 + 2)) (h3 : x3 = f (k * 8 + 3)) (h4 : x4 = f (k * 8 + 4)) (h5 : x5 = f (k * 8 + 5)) (h6 : x6 = f (k * 8 + 6)) (h7 : x7 = f (k * 8 + 7)) :
    ∀ i, i < (k + 1) * 8 → ((((((((cur.setIfInBounds (k * 8) x0).setIfInBounds (k * 8 + 1) x1).setIfInBounds (k * 8 + 2) x2).setIfInBounds (k * 8 + 3) x3).setIfInBounds (k * 8 + 4) x4).setIfInBounds (k * 8 + 5) x5).setIfInBounds (k * 8 + 6) x6).setIfInBounds (k * 8 + 7) x7)[i]? = some (f i) := by
  intro i hi
  simp only [Array.getElem?_setIfInBounds, Array.size_setIfInBounds]
  subst h0 h1 h2 h3 h4 h5 h6 h7
  by_cases h8 : i < k * 8
  · rw [if_neg (by omega), if_neg (by omega), if_neg (by omega), if_neg (by omega), if_neg (by omega), if_neg (by omega), if_neg (by omega), if_neg (by omega)]
    exact h i h8
  · have : i = k * 8 ∨ i = k * 8 + 1 ∨ i = k * 8 + 2 ∨ i = k * 8 + 3 ∨ i = k * 8 + 4 ∨ i = k * 8 + 5 ∨ i = k * 8 + 6 ∨ i = k * 8 + 7 := by omega
    rcases this with rfl | rfl | rfl | rfl | rfl | rfl | rfl | rfl
    · rw [if_neg (by omega), if_neg (by omega), if_neg (by omega), if_neg (by omega), if_neg (by omega), if_neg (by omega), if_neg (by omega), if_pos rfl, if_pos (by omega)]
    · rw [if_neg (by omega), if_neg (by omega), if_neg (by omega), if_neg (by omega), if_neg (by omega), if_neg (by omega), if_pos rfl, if_pos (by omega)]
    · rw [if_neg (by omega), if_neg (by omega), if_neg (by omega), if_neg (by omega), if_neg (by omega), if_pos rfl, if_pos (by omega)]
    · rw [if_neg (by omega), if_neg (by omega), if_neg (by omega), if_neg (by omega), if_pos rfl, if_pos (by omega)]
    · rw [if_neg (by omega), if_neg (by omega), if_neg (by omega), if_pos rfl, if_pos (by omega)]
    · rw [if_neg (by omega), if_neg (by omega), if_pos rfl, if_pos (by omega)]
    · rw [if_neg (by omega), if_pos rfl, if_pos (by omega)]
    · rw [if_pos rfl, if_pos (by omega)]
set_option maxHeartbeats 8000000 in
theorem toSecS_any (L : List SS) (A : Option Addr) (c : Nat) (w : World) (hn : L.length ≤ 1048576) (hs : SSl w w.heap.size A L) :
    Calls Tryd.prog 41 #[.slice A L.length c] w fun e w' => e = .returned (.slice (some ⟨w.heap.size, 0, none⟩) L.length L.length) ∧ SSl w' w'.heap.size (some ⟨w.heap.size, 0, none⟩) L ∧ Below w.heap.size w w' := by
  obtain ⟨i0, hi, hz0, hz1, hz2⟩ := info_parts infoSS
  have HS := Lib.hid hs
  obtain ⟨n, hn'⟩ : ∃ n, L.length = n := ⟨_, rfl⟩
  have HN := Lib.hid hn'
  rw [hn'] at hn ⊢
  have hmk : ∀ u : World, (Instr.makeSlice 23 (.int .i64 (n : Int)) (.int .i64 (n : Int))).run Tryd.prog u =
      .ok (.slice (some ⟨u.heap.size, 0, none⟩) n n) (u.alloc (.cells (madeCells #[.int .i64 0, .int .i64 0, .int .i64 0, .int .i64 0, .string .empty, .bool false, .bool false, .bool false] (n * 8)) 44)) := fun u => by
    have h := run_make (P := Tryd.prog) u 23 44 i0 (.agg #[.int .i64 0, .int .i64 0, .int .i64 0, .int .i64 0, .string .empty, .bool false, .bool false, .bool false]) Tryd.underlying23 hi hz0 .i64 .i64 (n : Int) (n : Int) (by omega) (Int.le_refl _) (by rw [hz2]; omega) (by omega)
    simpa [hz1, Value.cells] using h
  clear hs hn' hi hz0 hz1 hz2
  go_enter Tryd.func41, Tryd.ntmps41
  go_wp2
  go_loopw [4] (fun s4 wr => ∃ (k : Nat) (cur : Array Value), k ≤ n ∧ s4 = .int .i64 k ∧ Rw wr w.heap.size 44 cur ∧ cur.size = n * 8 ∧ (∀ i, i < k * 8 → cur[i]? = some (secF L i)) ∧ Below w.heap.size w wr) (fun i _ => n - (intOf i).toNat)
  case atStart => exact ⟨0, _, by omega, rfl, Rw.new _ _ _, size_madeCells _ _, fun i hi => by omega, (Below.refl _ _).alloc (Nat.le_refl _) _⟩
  case round =>
    obtain ⟨k, cur, hk, rfl, hrw, hsz, hcur, hb⟩ := hrel
    have hz := hb.size
    have hlt0 := hrw.lt
    by_cases hlt : k < n
    · have hkL : k < L.length := by rw [HN.out]; exact hlt
      obtain ⟨b, o, rfl, hbb, c0, c1, c2, c3, c4, c5, c6, c7⟩ := (HS.out.below hb).elem hkL
      have HNX := Lib.hid (eight_more (f := secF L) (k := k) (x0 := .int .i64 (sAt L k).cy) (x1 := .int .i64 (sAt L k).hd) (x2 := .int .i64 (sAt L k).no) (x3 := .int .i64 (sAt L k).sz) (x4 := .string (sAt L k).dt) (x5 := .bool (sAt L k).dl) (x6 := .bool (sAt L k).bi) (x7 := .bool (sAt L k).bd) hcur (by omega) (secF_at L k 0 (by omega)).symm (secF_at L k 1 (by omega)).symm (secF_at L k 2 (by omega)).symm (secF_at L k 3 (by omega)).symm (secF_at L k 4 (by omega)).symm (secF_at L k 5 (by omega)).symm (secF_at L k 6 (by omega)).symm (secF_at L k 7 (by omega)).symm)
      obtain ⟨S, hS⟩ : ∃ S, sAt L k = S := ⟨_, rfl⟩
      rw [hS] at c0 c1 c2 c3 c4 c5 c6 c7 HNX
      have HV := Lib.hid (fun W => toSec_any S W)
      unfold SS.val SS.cells at HV
      have hi8 : (k : Int) < (n : Int) := by omega
      have hcx : ∀ j, j < 8 → ∃ u, wr.cell? ⟨w.heap.size, k * 8 + j, none⟩ = some u := fun j hj => ⟨_, (hrw.cell _).trans (Array.getElem?_eq_getElem (by omega))⟩
      have HRW := Lib.hid hrw
      have HB := Lib.hid hb
      have hsz8 : (Tryd.prog.info? 44).map (·.size) = some 8 := by kernel_rfl
      have HSZ := Lib.hid hsz8
      have HTH := Lib.hid (fun (w1 : World) (hb1 : Below wr.heap.size wr w1) => show w1.there w.heap.size (k * 8) 8 from fun j hj => by
        have hr1 := hrw.below hb1 hlt0
        exact ⟨by rw [hr1.cell, Array.getElem?_eq_getElem (by omega)]; rfl, hr1.frozen _⟩)
      clear hS hkL hcur hcx hrw hb hmk hsz8
      go_wp2_with (first
        | (go_at_call 76; refine (HV.out _).mono ?_; rintro e w1 ⟨rfl, hb1⟩)
        | (refine wpList_store_mid rfl 44 (.tmp 21) (.tmp 20) rfl w.heap.size (k * 8) #[.int .i64 S.cy, .int .i64 S.hd, .int .i64 S.no, .int .i64 S.sz, .string S.dt, .bool S.dl, .bool S.bi, .bool S.bd] rfl rfl (HTH.out _ hb1) HSZ.out (by simp [Value.oneCell']) ?_; have hq : w.heap.size ≤ w.heap.size := Nat.le_refl _; have hrr : Rw (w1.setCells w.heap.size (k * 8) [.int .i64 S.cy, .int .i64 S.hd, .int .i64 S.no, .int .i64 S.sz, .string S.dt, .bool S.dl, .bool S.bi, .bool S.bd]) w.heap.size 44 _ := ((((((((HRW.out.below hb1 hlt0).set (k * 8) (.int .i64 S.cy)).set (k * 8 + 1) (.int .i64 S.hd)).set (k * 8 + 2) (.int .i64 S.no)).set (k * 8 + 3) (.int .i64 S.sz)).set (k * 8 + 4) (.string S.dt)).set (k * 8 + 5) (.bool S.dl)).set (k * 8 + 6) (.bool S.bi)).set (k * 8 + 7) (.bool S.bd); have hbb : Below w.heap.size w (w1.setCells w.heap.size (k * 8) [.int .i64 S.cy, .int .i64 S.hd, .int .i64 S.no, .int .i64 S.sz, .string S.dt, .bool S.dl, .bool S.bi, .bool S.bd]) := ((((((((HB.out.trans (hb1.mono hz)).setCell (p := ⟨w.heap.size, k * 8, none⟩) hq _).setCell (p := ⟨w.heap.size, k * 8 + 1, none⟩) hq _).setCell (p := ⟨w.heap.size, k * 8 + 2, none⟩) hq _).setCell (p := ⟨w.heap.size, k * 8 + 3, none⟩) hq _).setCell (p := ⟨w.heap.size, k * 8 + 4, none⟩) hq _).setCell (p := ⟨w.heap.size, k * 8 + 5, none⟩) hq _).setCell (p := ⟨w.heap.size, k * 8 + 6, none⟩) hq _).setCell (p := ⟨w.heap.size, k * 8 + 7, none⟩) hq _; have HRR := Lib.hid hrr; have HBB := Lib.hid hbb; clear hrr hbb hq; generalize w1.setCells w.heap.size (k * 8) _ = W2 at *))
      exact ⟨⟨k + 1, _, by omega, by go_num, HRR.out, by simpa using hsz, HNX.out, HBB.out⟩, by simp [intOf] <;> omega⟩
    · obtain rfl : k = n := by omega
      go_wp2
      go_ret
      refine ⟨rfl, ?_, hb⟩
      intro i hi
      rw [HN.out] at hi
      exact ⟨w.heap.size, 0, rfl, hlt0, by rw [Nat.zero_add, hrw.cell]; exact hcur i hi⟩
end Go.Proofs.YtabmdbhbbmnkdaaDoor
