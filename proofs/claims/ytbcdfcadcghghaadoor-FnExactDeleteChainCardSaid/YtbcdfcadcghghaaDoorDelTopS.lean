/-
  Disks of chains: DeleteChain, the reference's side.
-/
import Derived.Test.YtbcdfcadcghghaaDoorDelTop
namespace Go.Proofs.YtbcdfcadcghghaaDoor
open Go Go.ChangeShapes Go.WideShapes Go.ChangeAt Go.RowKit lib
set_option linter.unusedVariables false
set_option maxRecDepth 100000
open Classical in
noncomputable def askCodeS (n : Nat) (s : Nat → ByteArray) (nm : ByteArray) : Int := if opens n s then if NameS nm then ((fndOf n s nm).2 : Int) else 1 else openCode n s
theorem specAsk_bad {w : World} {n c : Nat} {A : Option Addr} {s : Nat → ByteArray} (nm : ByteArray) (hnm : nm.size ≤ 9223372036854775807) (hs : Sl w w.heap.size A n (fun i => .string (s i))) (hsz : ∀ i, i < n → (s i).size ≤ 9223372036854775807) (hn : n ≤ c) (hn2 : n ≤ 9223372036854775807) (hc : askCodeS n s nm ≠ 0) : Calls Tryd.prog 48 #[.slice A n c, .string nm] w fun r w' => ∃ P, r = .returned (.tuple #[.pointer P, .int .i64 0, .int .i64 (askCodeS n s nm)]) ∧ Below w.heap.size w w' := by
  by_cases ho : opens n s
  · by_cases hN : NameS nm
    · have e : askCodeS n s nm = ((fndOf n s nm).2 : Int) := by unfold askCodeS; rw [if_pos ho, if_pos hN]
      rw [e] at hc ⊢
      rcases (findGo_ok (n := n) (z := (s 0).size) (U := joinU (s 0).size s) (nm := nm) (entsN n) 0).2.1 with h | h | h
      · exact absurd (show ((fndOf n s nm).2 : Int) = 0 by unfold fndOf; omega) hc
      · have h3 : (fndOf n s nm).2 = 3 := h
        rw [h3]
        exact specAsk_find3 nm hnm hs hsz hn hn2 ho hN h3
      · have h7 : (fndOf n s nm).2 = 7 := h
        rw [h7]
        exact specAsk_find7 nm hnm hs hsz hn hn2 ho hN h7
    · have e : askCodeS n s nm = 1 := by unfold askCodeS; rw [if_pos ho, if_neg hN]
      rw [e]
      exact specAsk_name nm hnm hs hsz hn hn2 ho hN
  · have e : askCodeS n s nm = openCode n s := by unfold askCodeS; rw [if_neg ho]
    rw [e]
    exact specAsk_shut nm hnm hs hsz hn hn2 ho
theorem askCode_S {n : Nat} {s : Nat → ByteArray} {nm : ByteArray} (h : askCode n s nm ≠ 0) : (askCodeS n s nm ≠ 0 ∧ askCodeS n s nm = askCode n s nm) ∨ (opens n s ∧ NameS nm ∧ (fndOf n s nm).2 = 0 ∧ (chOf n s nm).2 ≠ 0 ∧ askCode n s nm = ((chOf n s nm).2 : Int)) := by
  unfold askCode at h ⊢
  unfold askCodeS
  split at h
  · rename_i h1
    split at h
    · rename_i h2
      split at h
      · rename_i h3
        right
        rw [if_pos h1, if_pos h2, if_pos h3]
        exact ⟨h1, h2, h3, by omega, rfl⟩
      · rename_i h3
        left
        rw [if_pos h1, if_pos h2, if_pos h1, if_pos h2, if_neg h3]
        exact ⟨by omega, rfl⟩
    · rename_i h2
      left
      rw [if_pos h1, if_neg h2, if_pos h1, if_neg h2]
      exact ⟨by omega, rfl⟩
  · rename_i h1
    left
    rw [if_neg h1, if_neg h1]
    exact ⟨h, rfl⟩
theorem specDelete_bad {w : World} {n c : Nat} {A : Option Addr} {s : Nat → ByteArray} (nm : ByteArray) (hnm : nm.size ≤ 9223372036854775807) (hs : Sl w w.heap.size A n (fun i => .string (s i))) (hsz : ∀ i, i < n → (s i).size ≤ 9223372036854775807) (hn : n ≤ c) (hn2 : n ≤ 9223372036854775807) (hc : askCode n s nm ≠ 0) : Calls Tryd.prog 30 #[.slice A n c, .string nm] w fun r w' => r = .returned (.tuple #[.slice none 0 0, .int .i64 (askCode n s nm)]) ∧ Below w.heap.size w w' := by
  rcases askCode_S hc with ⟨h1, h2⟩ | ⟨ho, hN, hF, hC, hcode⟩
  · have HO := Lib.hid (specAsk_bad nm hnm hs hsz hn hn2 h1)
    rw [← h2]
    obtain ⟨code, hcode⟩ : ∃ code, askCodeS n s nm = code := ⟨_, rfl⟩
    rw [hcode] at h1 ⊢ HO
    have e1 : (code != 0) = true := by simpa using h1
    clear hs hsz hcode h1 hc h2
    go_enter Tryd.func30, Tryd.ntmps30
    go_wp2_with (go_at_call 48; refine HO.out.mono ?_; rintro r w1 ⟨P, rfl, hb1⟩)
    go_ret2
    exact ⟨rfl, hb1⟩
  · have HO := Lib.hid (specAsk_ok nm hnm hs hsz hn hn2 ho hN hF)
    rw [hcode]
    obtain ⟨f1, f2, f3, f4, f5, f6⟩ := walk_fit ho.1
    have hf := shape_facts ho.1
    have hkF := (findGo_ok (n := n) (z := (s 0).size) (U := joinU (s 0).size s) (nm := nm) (entsN n) 0).1 hF
    have hfit := f6 (fndOf n s nm).1 (by have := hkF.2.1; unfold fndOf; omega)
    have hchl := chainOf_ok (dataN n (s 0).size) n (lkN (s 0).size (joinU (s 0).size s)) (entOfN n s nm).f
    change ChL (dataN n (s 0).size) n (chOf n s nm).1 at hchl
    have hclen := hchl.len
    have hklt : (fndOf n s nm).1 < 16 := by have := hkF.2.1; unfold fndOf; omega
    have hfb : (entOfN n s nm).f ≤ 255 := (entryOf_facts _).2.1
    have hlb : (entOfN n s nm).l ≤ 512 := (entryOf_facts _).2.2.1
    have hnb : (entOfN n s nm).nm.size ≤ 8 := (entryOf_facts _).1
    have HDS : putE (relU (s 0).size (joinU (s 0).size s) (chOf n s nm).1) (dirN n (s 0).size * (s 0).size + (fndOf n s nm).1 * 12) (entOfN n s nm).nm (entOfN n s nm).f (entOfN n s nm).l false true = upd (relU (s 0).size (joinU (s 0).size s) (chOf n s nm).1) (dirN n (s 0).size * (s 0).size + (fndOf n s nm).1 * 12 + 11) 2 := del_same (by omega) hkF.2.2.1 hkF.2.2.2 (fun a ha => (hchl.lt a ha).2)
    have hEN : entryOf (fun i => joinU (s 0).size s (dirN n (s 0).size * (s 0).size + (fndOf n s nm).1 * 12 + i)) = entOfN n s nm := rfl
    have hCO : chainOf (dataN n (s 0).size) n (lkN (s 0).size (joinU (s 0).size s)) (entOfN n s nm).f = chOf n s nm := rfl
    have hoK := (show okE (fun i => joinU (s 0).size s (dirN n (s 0).size * (s 0).size + (fndOf n s nm).1 * 12 + i)) from hkF.2.2.1)
    obtain ⟨z, hz⟩ : ∃ z, (s 0).size = z := ⟨_, rfl⟩
    obtain ⟨U, hU⟩ : ∃ U, joinU z s = U := ⟨_, rfl⟩
    obtain ⟨k, hk⟩ : ∃ k, (fndOf n s nm).1 = k := ⟨_, rfl⟩
    obtain ⟨Ch, hl⟩ : ∃ l, chOf n s nm = l := ⟨_, rfl⟩
    obtain ⟨e, he⟩ : ∃ e, entOfN n s nm = e := ⟨_, rfl⟩
    unfold OpenW at HO
    rw [hk] at HO
    rw [hz] at f2 f3 f5 hf hfit HO hchl hEN hCO hoK
    rw [hU] at HO hEN hCO hoK
    rw [hk] at hfit hklt hEN hoK
    rw [hl] at hchl hclen hCO hC ⊢
    rw [he] at hEN hCO hfb hlb hnb
    obtain ⟨at', hat⟩ : ∃ a, dirN n z * z + k * 12 = a := ⟨_, rfl⟩
    have HAT := Lib.hid hat
    rw [hat] at hfit hEN hoK
    have hc1' : ((Ch.2 : Int) != 0) = true := by simp; omega
    obtain ⟨en, ef, el, eu, ed⟩ := e
    have HEN := Lib.hid hEN
    have HCO := Lib.hid hCO
    clear ho hN hF hC hs hsz hc hcode hz hU hk hl he hat hkF hchl f6 hEN hCO HDS hoK
    go_enter Tryd.func30, Tryd.ntmps30
    go_wp2_with (first
      | (go_at_call 48; refine HO.out.mono ?_; rintro r w1 ⟨p, rfl, g, cc, hc1, hcap, hb1, hp, hg⟩)
      | (go_at_call 39; refine (specEntry_any k at' hc1 HAT.out (by omega) (by omega) hcap (by omega)).mono ?_; intro e2 w2 h2; obtain ⟨b, hbk, rfl, hb2⟩ := h2; rw [HEN.out]; unfold Ent.val entV; dsimp only; have hbE := hb2.alloc hb2.size (.cells #[.string en, .int .i64 ef, .int .i64 el, .bool eu, .bool ed] 57); have hc2a := hc1.below hbE; have rE := Rw.new w2 57 #[.string en, .int .i64 ef, .int .i64 el, .bool eu, .bool ed]; have q1 := rE.cell 1)
      | (go_at_call 55; refine (specChain_any ef (by omega) hc2a f1 f2 f3).mono ?_; rw [HCO.out]; rintro e3 w3 ⟨A3, c3, rfl, hi3, hb3⟩; have rE3 := rE.below hb3 rE.lt; have hc3 := hc2a.below hb3))
    go_ret2
    have hbb := hb1.trans (hbE.mono hb1.size)
    exact ⟨rfl, hbb.trans (hb3.mono hbb.size)⟩
set_option maxHeartbeats 1000000 in
theorem specDelete_ok {w : World} {n c : Nat} {A : Option Addr} {s : Nat → ByteArray} (nm : ByteArray) (hnm : nm.size ≤ 9223372036854775807) (hs : Sl w w.heap.size A n (fun i => .string (s i))) (hsz : ∀ i, i < n → (s i).size ≤ 9223372036854775807) (hn : n ≤ c) (hn2 : n ≤ 9223372036854775807) (hc : askCode n s nm = 0) : Calls Tryd.prog 30 #[.slice A n c, .string nm] w fun r w' => ∃ A c, r = .returned (.tuple #[.slice A n c, .int .i64 0]) ∧ w'.ownsRow w.heap.size 9 1 (.slice A n c) n ((List.range n).map fun (i : Nat) => Value.string (blkOf (s 0).size (delU n s nm) i)) ∧ Below w.heap.size w w' := by
  obtain ⟨ho, hN, hF, HC⟩ := askCode_zero hc
  have HO := Lib.hid (specAsk_ok nm hnm hs hsz hn hn2 ho hN hF)
  unfold delU
  obtain ⟨f1, f2, f3, f4, f5, f6⟩ := walk_fit ho.1
  have hf := shape_facts ho.1
  have hkF := (findGo_ok (n := n) (z := (s 0).size) (U := joinU (s 0).size s) (nm := nm) (entsN n) 0).1 hF
  have hfit := f6 (fndOf n s nm).1 (by have := hkF.2.1; unfold fndOf; omega)
  have hchl := chainOf_ok (dataN n (s 0).size) n (lkN (s 0).size (joinU (s 0).size s)) (entOfN n s nm).f
  change ChL (dataN n (s 0).size) n (chOf n s nm).1 at hchl
  have hclen := hchl.len
  have hklt : (fndOf n s nm).1 < 16 := by have := hkF.2.1; unfold fndOf; omega
  have hfb : (entOfN n s nm).f ≤ 255 := (entryOf_facts _).2.1
  have hlb : (entOfN n s nm).l ≤ 512 := (entryOf_facts _).2.2.1
  have hnb : (entOfN n s nm).nm.size ≤ 8 := (entryOf_facts _).1
  have HDS : putE (relU (s 0).size (joinU (s 0).size s) (chOf n s nm).1) (dirN n (s 0).size * (s 0).size + (fndOf n s nm).1 * 12) (entOfN n s nm).nm (entOfN n s nm).f (entOfN n s nm).l false true = upd (relU (s 0).size (joinU (s 0).size s) (chOf n s nm).1) (dirN n (s 0).size * (s 0).size + (fndOf n s nm).1 * 12 + 11) 2 := del_same (by omega) hkF.2.2.1 hkF.2.2.2 (fun a ha => (hchl.lt a ha).2)
  have hEN : entryOf (fun i => joinU (s 0).size s (dirN n (s 0).size * (s 0).size + (fndOf n s nm).1 * 12 + i)) = entOfN n s nm := rfl
  have hCO : chainOf (dataN n (s 0).size) n (lkN (s 0).size (joinU (s 0).size s)) (entOfN n s nm).f = chOf n s nm := rfl
  have hoK := (show okE (fun i => joinU (s 0).size s (dirN n (s 0).size * (s 0).size + (fndOf n s nm).1 * 12 + i)) from hkF.2.2.1)
  obtain ⟨z, hz⟩ : ∃ z, (s 0).size = z := ⟨_, rfl⟩
  obtain ⟨U, hU⟩ : ∃ U, joinU z s = U := ⟨_, rfl⟩
  obtain ⟨k, hk⟩ : ∃ k, (fndOf n s nm).1 = k := ⟨_, rfl⟩
  obtain ⟨Ch, hl⟩ : ∃ l, chOf n s nm = l := ⟨_, rfl⟩
  obtain ⟨e, he⟩ : ∃ e, entOfN n s nm = e := ⟨_, rfl⟩
  unfold OpenW at HO
  rw [hk] at HO
  rw [hz] at f2 f3 f5 hf hfit HO hchl hEN hCO hoK HDS ⊢
  rw [hU] at HO hEN hCO hoK HDS ⊢
  rw [hk] at hfit hklt hEN hoK HDS ⊢
  rw [hl] at hchl hclen hCO HC HDS ⊢
  rw [he] at hEN hCO hfb hlb hnb HDS
  obtain ⟨at', hat⟩ : ∃ a, dirN n z * z + k * 12 = a := ⟨_, rfl⟩
  have HAT := Lib.hid hat
  rw [hat] at hfit hEN hoK HDS ⊢
  have hc1' : ((Ch.2 : Int) != 0) = false := by simp; omega
  obtain ⟨l, c2'⟩ := Ch
  dsimp only at hchl hclen HC HDS hc1' ⊢
  obtain ⟨en, ef, el, eu, ed⟩ := e
  have HEN := Lib.hid hEN
  have HCO := Lib.hid hCO
  have HCL := Lib.hid hchl
  have HDD := Lib.hid HDS
  clear ho hN hF hs hsz hc hz hU hk hl he hat hkF hchl f6 hEN hCO hoK HDS
  go_enter Tryd.func30, Tryd.ntmps30
  go_wp2_with (first
    | (go_at_call 48; refine HO.out.mono ?_; rintro r w1 ⟨p, rfl, g, cc, hc1, hcap, hb1, hp, hg⟩)
    | (go_at_call 39; refine (specEntry_any k at' hc1 HAT.out (by omega) (by omega) hcap (by omega)).mono ?_; intro e2 w2 h2; obtain ⟨b, hbk, rfl, hb2⟩ := h2; rw [HEN.out]; unfold Ent.val entV; dsimp only; have hbE := hb2.alloc hb2.size (.cells #[.string en, .int .i64 ef, .int .i64 el, .bool eu, .bool ed] 57); have hc2a := hc1.below hbE; have rE := Rw.new w2 57 #[.string en, .int .i64 ef, .int .i64 el, .bool eu, .bool ed]; have q1 := rE.cell 1)
    | (go_at_call 55; refine (specChain_any ef (by omega) hc2a f1 f2 f3).mono ?_; rw [HCO.out]; rintro e3 w3 ⟨A3, c3, rfl, hi3, hb3⟩; have rE3 := rE.below hb3 rE.lt; have hc3 := hc2a.below hb3; have hgB : g < (w2.alloc (.cells #[.string en, .int .i64 ef, .int .i64 el, .bool eu, .bool ed] 57)).heap.size := hc2a.row.lt; have hpq : p ≠ w2.heap.size := (by have := hc1.plt; have := hb2.size; omega); have hgq' : g ≠ w2.heap.size := (by have := hc1.row.lt; have := hb2.size; omega))
    | (go_at_call 56; refine (specRelease_any hc3 hi3 hgB (fun a ha => (HCL.out.lt a ha).2) (by omega) f2 f3).mono ?_; rintro e4 w4 ⟨rfl, hc4, hb4, hg4⟩; have hgq : some g ≠ some w2.heap.size := (fun e => by injection e with e; have := hc1.row.lt; have := hb2.size; omega); have rE4 := rw_grown rE3 hg4 (.inr hgq); have y3 := rE4.cell 3; have y4 := rE4.cell 4; have yf3 := rE4.frozen 3; have yf4 := rE4.frozen 4)
    | (go_at_call 57; refine (specSetEntry_any k at' en ef el false true hnb hfb hlb ((hc4.far hpq hgq' 3 (.bool false)).far hpq hgq' 4 (.bool true)) (by simpa using (rE4.set 3 (.bool false)).set 4 (.bool true)) HAT.out (by omega) (by omega) hcap (by omega)).mono ?_; rintro e5 w5 ⟨rfl, hc5, hb5⟩)
    | (go_at_call 58; refine (specDisk_any hc5 rfl hf.2.1 hf.2.2.2.2.2 (by omega) hcap).mono ?_; rintro r w6 ⟨A2, c2, rfl, ho2, hb6⟩))
  go_ret2
  rw [HDD.out] at ho2
  have hbb := hb1.trans (hbE.mono hb1.size)
  have hb3' := hbb.trans (hb3.mono hbb.size)
  have hb4' := hb3'.trans (hb4 w.heap.size hg (Nat.le_trans hbb.size hb3.size))
  have hb4'' := (hb4'.setCell (p := ⟨w2.heap.size, 3, none⟩) (show w.heap.size ≤ w2.heap.size by have := hb1.size; have := hb2.size; omega) (.bool false)).setCell (p := ⟨w2.heap.size, 4, none⟩) (show w.heap.size ≤ w2.heap.size by have := hb1.size; have := hb2.size; omega) (.bool true)
  have hb5' := hb4''.trans (hb5 w.heap.size hg hb4''.size)
  exact ⟨A2, c2, rfl, own_base ho2 hb5'.size, hb5'.trans (hb6.mono hb5'.size)⟩
end Go.Proofs.YtbcdfcadcghghaaDoor
