/-
  Disks of chains: DeleteChain, both sides.
-/
import Derived.Test.YtbcdfcadcghghaaDoorAskTopS
namespace Go.Proofs.YtbcdfcadcghghaaDoor
open Go Go.ChangeShapes Go.WideShapes Go.ChangeAt Go.RowKit lib
set_option linter.unusedVariables false
set_option maxRecDepth 100000
/-- the bytes of a disk when some blocks are free -/
def relU (z : Nat) (u : Nat → UInt8) (l : List Nat) : Nat → UInt8 := fun j => if (l.any fun a => j == z + a) = true then 0 else u j
theorem relU_nil (z : Nat) (u : Nat → UInt8) : relU z u [] = u := by funext j; simp [relU]
theorem relU_snoc (z : Nat) (u : Nat → UInt8) (l : List Nat) (a : Nat) : upd (relU z u l) (z + a) 0 = relU z u (l ++ [a]) := by
  funext j
  unfold relU upd
  by_cases h : j = z + a
  · simp [h]
  · simp [h]
theorem relU_take (z : Nat) (u : Nat → UInt8) (l : List Nat) {i : Nat} (hi : i < l.length) : upd (relU z u (l.take i)) (z + l.getD i 0) 0 = relU z u (l.take (i + 1)) := by
  rw [List.take_add_one, List.getElem?_eq_getElem hi, Option.toList_some, ← relU_snoc]
  simp [List.getD_eq_getElem?_getD, hi]
theorem relU_far {z : Nat} {u : Nat → UInt8} {l : List Nat} {j : Nat} (h : ∀ a, a ∈ l → j ≠ z + a) : relU z u l j = u j := by
  unfold relU
  rw [if_neg]
  intro q
  obtain ⟨a, ha, e⟩ := List.any_eq_true.1 q
  exact h a ha (by simpa using e)
theorem dir_ge {n z : Nat} (hz : 0 < z) : z + n ≤ dirN n z * z := by
  unfold dirN
  have := Nat.div_add_mod (n + z - 1) z
  have h2 := Nat.mod_lt (n + z - 1) hz
  rw [Nat.add_mul, Nat.mul_comm ((n + z - 1) / z) z]
  omega
theorem okK_byte {n z k : Nat} {U : Nat → UInt8} (h : okK n z U k) : ∀ i, i < 12 → (entK n z U k).byte i = U (dirN n z * z + k * 12 + i) := by
  intro i hi
  unfold entK
  rw [entryOf_ok h]
  exact h.2 i hi
/-- a deleted entry's bytes -/
theorem del_same {n z k : Nat} {U : Nat → UInt8} {l : List Nat} (hz : 0 < z) (hok : okK n z U k) (hus : (entK n z U k).us = true) (hl : ∀ a, a ∈ l → a < n) :
    putE (relU z U l) (dirN n z * z + k * 12) (entK n z U k).nm (entK n z U k).f (entK n z U k).l false true = upd (relU z U l) (dirN n z * z + k * 12 + 11) 2 := by
  funext j
  have hb := okK_byte hok
  have hge := dir_ge (n := n) hz
  obtain ⟨e, he⟩ : ∃ e, entK n z U k = e := ⟨_, rfl⟩
  rw [he] at hb hus ⊢
  obtain ⟨nm, f, ln, us, de⟩ := e
  simp only at hus
  subst hus
  unfold putE putU
  split
  · rename_i h
    have hlen : ((List.range 12).map (entB nm f ln false true)).length = 12 := by simp
    rw [hlen] at h
    obtain ⟨i, hi, rfl⟩ : ∃ i, i < 12 ∧ j = dirN n z * z + k * 12 + i := ⟨j - (dirN n z * z + k * 12), by omega, by omega⟩
    have hg : ((List.range 12).map (entB nm f ln false true)).getD (dirN n z * z + k * 12 + i - (dirN n z * z + k * 12)) 0 = entB nm f ln false true i := by
      rw [show dirN n z * z + k * 12 + i - (dirN n z * z + k * 12) = i by omega]
      simp [hi]
    simp only at hg ⊢
    rw [hg, entB_ft]
    unfold upd
    by_cases e : i = 11
    · subst e; simp
    · rw [if_neg e, if_neg (by omega), relU_far (fun a ha => by have := hl a ha; omega), ← hb i hi]
      show _ = entB nm f ln true de i
      rw [entB_t, upd_other _ _ e]
  · rename_i h
    have hlen : ((List.range 12).map (entB nm f ln false true)).length = 12 := by simp
    rw [hlen] at h
    rw [upd_other _ _ (by omega)]
/-- the bytes of a disk when a file is deleted -/
noncomputable def delU (n : Nat) (s : Nat → ByteArray) (nm : ByteArray) : Nat → UInt8 := upd (relU (s 0).size (joinU (s 0).size s) (chOf n s nm).1) (dirN n (s 0).size * (s 0).size + (fndOf n s nm).1 * 12 + 11) 2
theorem askCode_zero {n : Nat} {s : Nat → ByteArray} {nm : ByteArray} (h : askCode n s nm = 0) : opens n s ∧ NameS nm ∧ (fndOf n s nm).2 = 0 ∧ (chOf n s nm).2 = 0 := by
  unfold askCode at h
  split at h
  · rename_i h1
    split at h
    · rename_i h2
      split at h
      · rename_i h3
        exact ⟨h1, h2, h3, by omega⟩
      · omega
    · omega
  · have := openCode_ne n s; omega
theorem implRelease_any {w : World} {p g n z E d t N c B cl : Nat} {u : Nat → UInt8} {A : Option Addr} {l : List Nat} (h : ChW w p g n z E d t N c u) (hi : IntsR B w A cl l) (hg : g < B) (hl : ∀ a, a ∈ l → a < n) (hlen : l.length ≤ 128) (hNz : z + n ≤ N) (hN : N ≤ 4096) :
    Calls Tryd.prog 59 #[.pointer (some ⟨p, 0, none⟩), .slice A l.length cl] w fun r w' => r = .returned (.tuple #[]) ∧ ChW w' p g n z E d t N c (relU z u l) ∧ (∀ B', B' ≤ g → B' ≤ w.heap.size → Below B' w w') := by
  have HI := Lib.hid hi
  have HH := Lib.hid h
  have HL := Lib.hid hl
  clear hi h hl
  go_enter Tryd.func59, Tryd.ntmps59
  go_wp2_with fail
  go_loopw [8] (fun s8 wr => ∃ i : Nat, i ≤ l.length ∧ s8 = .int .i64 i ∧ ChW wr p g n z E d t N c (relU z u (l.take i)) ∧ IntsR B wr A cl l ∧ (∀ B', B' ≤ g → B' ≤ w.heap.size → Below B' w wr)) (fun s _ => l.length - (intOf s).toNat)
  case atStart => exact ⟨0, by omega, rfl, by rw [List.take_zero, relU_nil]; exact HH.out, HI.out, fun B' _ _ => Below.refl _ _⟩
  case round =>
    obtain ⟨i, hik, rfl, hc, hii, hb⟩ := hrel
    have HC := Lib.hid hc
    have HII := Lib.hid hii
    have HB := Lib.hid hb
    clear hb
    by_cases hlt : i < l.length
    · obtain ⟨bb, oo, hA, hbb, hcc⟩ := hii.sl i hlt
      have hy := HL.out (l.getD i 0) (by rw [List.getD_eq_getElem?_getD, List.getElem?_eq_getElem hlt]; exact List.getElem_mem hlt)
      have HRT := Lib.hid (relU_take z u l hlt)
      dsimp only at hcc
      subst hA
      obtain ⟨y, hyy⟩ : ∃ y, l.getD i 0 = y := ⟨_, rfl⟩
      rw [hyy] at hcc hy
      have HYY := Lib.hid hyy
      have gc := hc.row.cell (i := z + y) (by omega)
      have gf := hc.row.frozen (i := z + y) (by omega)
      clear hyy hii
      go_wp2_with (go_at_call 84; refine (implLink_any y hc (by omega) (by omega)).mono ?_; rintro e3 w3 ⟨rfl, rfl⟩)
      go_roundw
      case rel => exact ⟨i + 1, by omega, by go_num, by rw [← HRT.out, HYY.out]; exact (HC.out.put (z + y) 0 rfl).drew, (HII.out.far hg _).drew, fun B' h1 h2 => ((HB.out B' h1 h2).setCell h1 _).drew⟩
      case measure => simp [intOf]; omega
    · have hie : i = l.length := by omega
      clear hii
      go_wp2
      go_end0
      have hc' := HC.out
      rw [hie, List.take_length] at hc'
      exact ⟨rfl, hc', HB.out⟩
theorem specRelease_any {w : World} {p g n z E d t N c B cl : Nat} {u : Nat → UInt8} {A : Option Addr} {l : List Nat} (h : ChW w p g n z E d t N c u) (hi : IntsR B w A cl l) (hg : g < B) (hl : ∀ a, a ∈ l → a < n) (hlen : l.length ≤ 128) (hNz : z + n ≤ N) (hN : N ≤ 4096) :
    Calls Tryd.prog 56 #[.pointer (some ⟨p, 0, none⟩), .slice A l.length cl] w fun r w' => r = .returned (.tuple #[]) ∧ ChW w' p g n z E d t N c (relU z u l) ∧ (∀ B', B' ≤ g → B' ≤ w.heap.size → Below B' w w') ∧ w.grownBy w' (some g) := by
  have HI := Lib.hid hi
  have HH := Lib.hid h
  have HL := Lib.hid hl
  clear hi h hl
  go_enter Tryd.func56, Tryd.ntmps56
  go_wp2_with fail
  go_loopw [4] (fun s8 wr => ∃ i : Nat, i ≤ l.length ∧ s8 = .int .i64 i ∧ ChW wr p g n z E d t N c (relU z u (l.take i)) ∧ IntsR B wr A cl l ∧ (∀ B', B' ≤ g → B' ≤ w.heap.size → Below B' w wr) ∧ w.grownBy wr (some g)) (fun s _ => l.length - (intOf s).toNat)
  case atStart => exact ⟨0, by omega, rfl, by rw [List.take_zero, relU_nil]; exact HH.out, HI.out, fun B' _ _ => Below.refl _ _, only_refl _ _⟩
  case round =>
    obtain ⟨i, hik, rfl, hc, hii, hb, hgw⟩ := hrel
    have HC := Lib.hid hc
    have HII := Lib.hid hii
    have HB := Lib.hid hb
    clear hb
    by_cases hlt : i < l.length
    · obtain ⟨bb, oo, hA, hbb, hcc⟩ := hii.sl i hlt
      have hy := HL.out (l.getD i 0) (by rw [List.getD_eq_getElem?_getD, List.getElem?_eq_getElem hlt]; exact List.getElem_mem hlt)
      have HRT := Lib.hid (relU_take z u l hlt)
      dsimp only at hcc
      subst hA
      obtain ⟨y, hyy⟩ : ∃ y, l.getD i 0 = y := ⟨_, rfl⟩
      rw [hyy] at hcc hy
      have HYY := Lib.hid hyy
      clear hyy hii
      go_wp2_with (go_at_call 95; refine (specSetLink_any y 0 hc (by omega) (by omega)).mono ?_; rintro e3 w3 ⟨rfl, rfl⟩)
      go_roundw
      case rel => exact ⟨i + 1, by omega, by go_num, by rw [← HRT.out, HYY.out]; exact (HC.out.put (z + y) 0 rfl).drew, (HII.out.far hg _).drew, fun B' h1 h2 => ((HB.out B' h1 h2).setCell h1 _).drew, only_drew (only_setCell hgw (.inl rfl) _)⟩
      case measure => simp [intOf]; omega
    · have hie : i = l.length := by omega
      clear hii
      go_wp2
      go_end0
      have hc' := HC.out
      rw [hie, List.take_length] at hc'
      exact ⟨rfl, hc', HB.out, hgw⟩
theorem implOpenChain_bad {w : World} {n c : Nat} {A : Option Addr} {s : Nat → ByteArray} (nm : ByteArray) (hnm : nm.size ≤ 9223372036854775807) (hs : Sl w w.heap.size A n (fun i => .string (s i))) (hsz : ∀ i, i < n → (s i).size ≤ 9223372036854775807) (hn : n ≤ c) (hn2 : n ≤ 9223372036854775807) (hc : askCode n s nm ≠ 0) : Calls Tryd.prog 50 #[.slice A n c, .string nm] w fun r w' => r = .returned (noChain (askCode n s nm)) ∧ Below w.heap.size w w' := by
  open Classical in
  by_cases ho : opens n s
  · by_cases hN : NameS nm
    · by_cases hF : (fndOf n s nm).2 = 0
      · have e : askCode n s nm = ((chOf n s nm).2 : Int) := by unfold askCode; rw [if_pos ho, if_pos hN, if_pos hF]
        rw [e] at hc ⊢
        exact implOpenChain_chain nm hnm hs hsz hn hn2 ho hN hF (by omega)
      · have e : askCode n s nm = ((fndOf n s nm).2 : Int) := by unfold askCode; rw [if_pos ho, if_pos hN, if_neg hF]
        rw [e]
        exact implOpenChain_find nm hnm hs hsz hn hn2 ho hN hF
    · have e : askCode n s nm = 1 := by unfold askCode; rw [if_pos ho, if_neg hN]
      rw [e]
      exact implOpenChain_name nm hnm hs hsz hn hn2 ho hN
  · have e : askCode n s nm = openCode n s := by unfold askCode; rw [if_neg ho]
    rw [e]
    exact implOpenChain_shut nm hnm hs hsz hn hn2 ho
theorem implDelete_bad {w : World} {n c : Nat} {A : Option Addr} {s : Nat → ByteArray} (nm : ByteArray) (hnm : nm.size ≤ 9223372036854775807) (hs : Sl w w.heap.size A n (fun i => .string (s i))) (hsz : ∀ i, i < n → (s i).size ≤ 9223372036854775807) (hn : n ≤ c) (hn2 : n ≤ 9223372036854775807) (hc : askCode n s nm ≠ 0) : Calls Tryd.prog 31 #[.slice A n c, .string nm] w fun r w' => r = .returned (.tuple #[.slice none 0 0, .int .i64 (askCode n s nm)]) ∧ Below w.heap.size w w' := by
  have HO := Lib.hid (implOpenChain_bad nm hnm hs hsz hn hn2 hc)
  obtain ⟨code, hcode⟩ : ∃ code, askCode n s nm = code := ⟨_, rfl⟩
  rw [hcode] at hc ⊢ HO
  have e1 : (code != 0) = true := by simpa using hc
  unfold noChain Ent.val entV ent0 at HO
  clear hs hsz hcode hc
  go_enter Tryd.func31, Tryd.ntmps31
  go_wp2_with (go_at_call 50; refine HO.out.mono ?_; rintro r w1 ⟨rfl, hb1⟩)
  go_ret2
  exact ⟨rfl, hb1.alloc hb1.size _⟩
set_option maxHeartbeats 1000000 in
theorem implDelete_ok {w : World} {n c : Nat} {A : Option Addr} {s : Nat → ByteArray} (nm : ByteArray) (hnm : nm.size ≤ 9223372036854775807) (hs : Sl w w.heap.size A n (fun i => .string (s i))) (hsz : ∀ i, i < n → (s i).size ≤ 9223372036854775807) (hn : n ≤ c) (hn2 : n ≤ 9223372036854775807) (hc : askCode n s nm = 0) : Calls Tryd.prog 31 #[.slice A n c, .string nm] w fun r w' => ∃ A c, r = .returned (.tuple #[.slice A n c, .int .i64 0]) ∧ w'.ownsRow w.heap.size 9 1 (.slice A n c) n ((List.range n).map fun (i : Nat) => Value.string (blkOf (s 0).size (delU n s nm) i)) ∧ Below w.heap.size w w' := by
  obtain ⟨ho, hN, hF, hC⟩ := askCode_zero hc
  have HO := Lib.hid (implOpenChain_ok nm hnm hs hsz hn hn2 ho hN hF hC)
  obtain ⟨f1, f2, f3, f4, f5, f6⟩ := walk_fit ho.1
  have hf := shape_facts ho.1
  have hkF := (findGo_ok (n := n) (z := (s 0).size) (U := joinU (s 0).size s) (nm := nm) (entsN n) 0).1 hF
  have hfit := f6 (fndOf n s nm).1 (by have := hkF.2.1; unfold fndOf; omega)
  have hchl := chainOf_ok (dataN n (s 0).size) n (lkN (s 0).size (joinU (s 0).size s)) (entOfN n s nm).f
  change ChL (dataN n (s 0).size) n (chOf n s nm).1 at hchl
  have hclen := hchl.len
  have hklt : (fndOf n s nm).1 < 16 := by have := hkF.2.1; unfold fndOf; omega
  unfold delU
  obtain ⟨z, hz⟩ : ∃ z, (s 0).size = z := ⟨_, rfl⟩
  obtain ⟨U, hU⟩ : ∃ U, joinU z s = U := ⟨_, rfl⟩
  obtain ⟨k, hk⟩ : ∃ k, (fndOf n s nm).1 = k := ⟨_, rfl⟩
  obtain ⟨l, hl⟩ : ∃ l, (chOf n s nm).1 = l := ⟨_, rfl⟩
  obtain ⟨e, he⟩ : ∃ e, entOfN n s nm = e := ⟨_, rfl⟩
  rw [hl, hk, he] at HO
  rw [hz] at f2 f3 f5 hf hfit HO hchl ⊢
  rw [hU] at HO ⊢
  rw [hk] at hfit hklt ⊢
  rw [hl] at hchl hclen ⊢
  obtain ⟨at', hat⟩ : ∃ a, dirN n z * z + k * 12 = a := ⟨_, rfl⟩
  have HAT := Lib.hid hat
  rw [hat] at hfit ⊢
  obtain ⟨en, ef, el, eu, ed⟩ := e
  unfold Ent.val entV at HO
  have HCL := Lib.hid hchl
  clear ho hN hF hC hs hsz hc hz hU hk hl he hat hkF hchl f6
  go_enter Tryd.func31, Tryd.ntmps31
  go_wp2_with (first
    | (go_at_call 50; refine HO.out.mono ?_; rintro r w1 ⟨p, g, cc, A3, c3, B, rfl, hc1, hcap, hb1, hp, hg, hi1, hgB, hpB, hwB⟩; have hbE := (Below.refl w1.heap.size w1).alloc (Nat.le_refl _) (.cells #[.string en, .int .i64 ef, .int .i64 el, .bool eu, .bool ed] 57); have hc1a := hc1.below hbE; have hi1a := hi1.below hbE)
    | (go_at_call 59; refine (implRelease_any hc1a hi1a hgB (fun a ha => (HCL.out.lt a ha).2) (by omega) f2 f3).mono ?_; rintro e2 w2 ⟨rfl, hc2, hb2⟩)
    | (go_at_call 60; refine (implEntryBytes_any k at' hc2 HAT.out (by omega) (by omega) hcap (by omega)).mono ?_; rintro e3 w3 ⟨rfl, rfl⟩; have gc := hc2.row.cell (i := at' + 11) (by omega); have gf := hc2.row.frozen (i := at' + 11) (by omega))
    | (go_at_call 61; refine (implDisk_any (hc2.put (at' + 11) 2 rfl).drew rfl hf.2.1 hf.2.2.2.2.2 (by omega) hcap).mono ?_; rintro r w5 ⟨A2, c2, rfl, ho2, hb5⟩))
  go_ret2
  have hbb := (((hb1.alloc hb1.size (.cells #[.string en, .int .i64 ef, .int .i64 el, .bool eu, .bool ed] 57)).trans (hb2 w.heap.size hg (Nat.le_trans hb1.size hbE.size))).setCell (p := ⟨g, at' + 11, none⟩) hg (.int .u8 2)).drew
  exact ⟨A2, c2, rfl, own_base ho2 hbb.size, hbb.trans (hb5.mono hbb.size)⟩
end Go.Proofs.YtbcdfcadcghghaaDoor
