/-
  Disks of chains: a disk is opened with the chain of a name: the program's side.
-/
import Derived.Test.YtgmmigbaaigldaaDoorFindTop
import Derived.Test.YtgmmigbaaigldaaDoorIntsP
namespace Go.Proofs.YtgmmigbaaigldaaDoor
open Go Go.ChangeShapes Go.WideShapes Go.ChangeAt Go.RowKit lib
set_option linter.unusedVariables false
set_option maxRecDepth 100000
noncomputable def fndOf (n : Nat) (s : Nat → ByteArray) (nm : ByteArray) : Nat × Nat := findGo n (s 0).size (joinU (s 0).size s) nm (entsN n) 0
noncomputable def entOfN (n : Nat) (s : Nat → ByteArray) (nm : ByteArray) : Ent := entK n (s 0).size (joinU (s 0).size s) (fndOf n s nm).1
noncomputable def chOf (n : Nat) (s : Nat → ByteArray) (nm : ByteArray) : List Nat × Nat := chainOf (dataN n (s 0).size) n (lkN (s 0).size (joinU (s 0).size s)) (entOfN n s nm).f
open Classical in
noncomputable def askCode (n : Nat) (s : Nat → ByteArray) (nm : ByteArray) : Int := if opens n s then if NameS nm then if (fndOf n s nm).2 = 0 then ((chOf n s nm).2 : Int) else ((fndOf n s nm).2 : Int) else 1 else openCode n s
/-- the result of an openChain that fails -/
def noChain (code : Int) : Value := .tuple #[.pointer none, .int .i64 0, ent0.val, .slice none 0 0, .int .i64 code]
theorem ChW.far {w : World} {p g n z e d t N c q : Nat} {u : Nat → UInt8} (h : ChW w p g n z e d t N c u) (hp : p ≠ q) (hg : g ≠ q) (j : Nat) (x : Value) : ChW (w.setCell ⟨q, j, none⟩ x) p g n z e d t N c u :=
  h.keep (Below.heap_setCell w ⟨q, j, none⟩ x p hp) (by simp [World.setCell]) (h.row.keep (Below.heap_setCell w ⟨q, j, none⟩ x g hg))
theorem implOpenChain_shut {w : World} {n c : Nat} {A : Option Addr} {s : Nat → ByteArray} (nm : ByteArray) (hnm : nm.size ≤ 9223372036854775807) (hs : Sl w w.heap.size A n (fun i => .string (s i))) (hsz : ∀ i, i < n → (s i).size ≤ 9223372036854775807) (hn : n ≤ c) (hn2 : n ≤ 9223372036854775807) (ho : ¬ opens n s) :
    Calls Tryd.prog 47 #[.slice A n c, .string nm] w fun r w' => r = .returned (noChain (openCode n s)) ∧ Below w.heap.size w w' := by
  have hs1 : Sl (w.alloc (.cells #[.string ⟨#[]⟩, .int .i64 0, .int .i64 0, .bool false, .bool false] 77)) (w.alloc (.cells #[.string ⟨#[]⟩, .int .i64 0, .int .i64 0, .bool false, .bool false] 77)).heap.size A n (fun i => .string (s i)) := (hs.alloc (Nat.le_refl _) _).more (by simp)
  have HB0 := Lib.hid ((Below.refl w.heap.size w).alloc (Nat.le_refl _) (.cells #[.string ⟨#[]⟩, .int .i64 0, .int .i64 0, .bool false, .bool false] 77))
  have HR0 := Lib.hid (Rw.new w 77 #[.string ⟨#[]⟩, .int .i64 0, .int .i64 0, .bool false, .bool false])
  have HSZ := Lib.hid (show (w.alloc (.cells #[.string ⟨#[]⟩, .int .i64 0, .int .i64 0, .bool false, .bool false] 77)).heap.size = w.heap.size + 1 by simp)
  have HO := Lib.hid (implOpen hs1 hsz hn hn2)
  have HL := Lib.hid ho
  have hne := openCode_ne n s
  obtain ⟨code, hcode⟩ : ∃ code, openCode n s = code := ⟨_, rfl⟩
  rw [hcode] at hne ⊢
  have HCD := Lib.hid hcode
  clear ho hs hs1 hsz hcode
  rcases hne with rfl | rfl
  · go_enter Tryd.func47, Tryd.ntmps47
    go_wp2_with (go_at_call 35; refine HO.out.mono ?_; rintro r w1 ⟨_, h1⟩; have h2 := h1 HL.out; rw [HCD.out] at h2; obtain ⟨rfl, hb1⟩ := h2; have r1 := HR0.out.below hb1 HR0.out.lt; have k0 := r1.cell 0; have fk0 := r1.frozen 0; have k1 := r1.cell 1; have fk1 := r1.frozen 1; have k2 := r1.cell 2; have fk2 := r1.frozen 2; have k3 := r1.cell 3; have fk3 := r1.frozen 3; have k4 := r1.cell 4; have fk4 := r1.frozen 4)
    have hrs := rowset5 r1 (.string ⟨#[]⟩) (.int .i64 0) (.int .i64 0) (.bool false) (.bool false)
    exact bodyPost_ret (v := noChain 1) (by simp [results, Tryd.results47, go_sem, noChain, Ent.val, entV, ent0, hrs]) rfl ⟨rfl, (((((HB0.out.trans (hb1.mono HB0.out.size)).setCell (Nat.le_refl _) _).setCell (Nat.le_refl _) _).setCell (Nat.le_refl _) _).setCell (Nat.le_refl _) _).setCell (Nat.le_refl _) _⟩
  · go_enter Tryd.func47, Tryd.ntmps47
    go_wp2_with (go_at_call 35; refine HO.out.mono ?_; rintro r w1 ⟨_, h1⟩; have h2 := h1 HL.out; rw [HCD.out] at h2; obtain ⟨rfl, hb1⟩ := h2; have r1 := HR0.out.below hb1 HR0.out.lt; have k0 := r1.cell 0; have fk0 := r1.frozen 0; have k1 := r1.cell 1; have fk1 := r1.frozen 1; have k2 := r1.cell 2; have fk2 := r1.frozen 2; have k3 := r1.cell 3; have fk3 := r1.frozen 3; have k4 := r1.cell 4; have fk4 := r1.frozen 4)
    have hrs := rowset5 r1 (.string ⟨#[]⟩) (.int .i64 0) (.int .i64 0) (.bool false) (.bool false)
    exact bodyPost_ret (v := noChain 7) (by simp [results, Tryd.results47, go_sem, noChain, Ent.val, entV, ent0, hrs]) rfl ⟨rfl, (((((HB0.out.trans (hb1.mono HB0.out.size)).setCell (Nat.le_refl _) _).setCell (Nat.le_refl _) _).setCell (Nat.le_refl _) _).setCell (Nat.le_refl _) _).setCell (Nat.le_refl _) _⟩
theorem implOpenChain_name {w : World} {n c : Nat} {A : Option Addr} {s : Nat → ByteArray} (nm : ByteArray) (hnm : nm.size ≤ 9223372036854775807) (hs : Sl w w.heap.size A n (fun i => .string (s i))) (hsz : ∀ i, i < n → (s i).size ≤ 9223372036854775807) (hn : n ≤ c) (hn2 : n ≤ 9223372036854775807) (ho : opens n s) (hN : ¬ NameS nm) :
    Calls Tryd.prog 47 #[.slice A n c, .string nm] w fun r w' => r = .returned (noChain 1) ∧ Below w.heap.size w w' := by
  have hs1 : Sl (w.alloc (.cells #[.string ⟨#[]⟩, .int .i64 0, .int .i64 0, .bool false, .bool false] 77)) (w.alloc (.cells #[.string ⟨#[]⟩, .int .i64 0, .int .i64 0, .bool false, .bool false] 77)).heap.size A n (fun i => .string (s i)) := (hs.alloc (Nat.le_refl _) _).more (by simp)
  have HB0 := Lib.hid ((Below.refl w.heap.size w).alloc (Nat.le_refl _) (.cells #[.string ⟨#[]⟩, .int .i64 0, .int .i64 0, .bool false, .bool false] 77))
  have HR0 := Lib.hid (Rw.new w 77 #[.string ⟨#[]⟩, .int .i64 0, .int .i64 0, .bool false, .bool false])
  have HSZ := Lib.hid (show (w.alloc (.cells #[.string ⟨#[]⟩, .int .i64 0, .int .i64 0, .bool false, .bool false] 77)).heap.size = w.heap.size + 1 by simp)
  have HO := Lib.hid (implOpen hs1 hsz hn hn2)
  have HL := Lib.hid ho
  have HN := Lib.hid (fun w : World => implIsName_any nm hnm false (by simpa using hN) w)
  clear ho hs hs1 hsz hN
  go_enter Tryd.func47, Tryd.ntmps47
  go_wp2_with (first
    | (go_at_call 35; refine HO.out.mono ?_; rintro r w1 ⟨h1, _⟩; obtain ⟨p, rfl, ow⟩ := h1 HL.out; obtain ⟨g, cc, hc, hcap, hb1, hp, hg⟩ := ow; have r1 := HR0.out.below hb1 HR0.out.lt; have k0 := r1.cell 0; have fk0 := r1.frozen 0; have k1 := r1.cell 1; have fk1 := r1.frozen 1; have k2 := r1.cell 2; have fk2 := r1.frozen 2; have k3 := r1.cell 3; have fk3 := r1.frozen 3; have k4 := r1.cell 4; have fk4 := r1.frozen 4)
    | (go_at_call 54; refine (HN.out _).mono ?_; rintro e w' ⟨rfl, rfl⟩))
  have hrs := rowset5 r1 (.string ⟨#[]⟩) (.int .i64 0) (.int .i64 0) (.bool false) (.bool false)
  exact bodyPost_ret (v := noChain 1) (by simp [results, Tryd.results47, go_sem, noChain, Ent.val, entV, ent0, hrs]) rfl ⟨rfl, (((((HB0.out.trans (hb1.mono HB0.out.size)).setCell (Nat.le_refl _) _).setCell (Nat.le_refl _) _).setCell (Nat.le_refl _) _).setCell (Nat.le_refl _) _).setCell (Nat.le_refl _) _⟩
set_option maxHeartbeats 1000000 in
theorem implOpenChain_find {w : World} {n c : Nat} {A : Option Addr} {s : Nat → ByteArray} (nm : ByteArray) (hnm : nm.size ≤ 9223372036854775807) (hs : Sl w w.heap.size A n (fun i => .string (s i))) (hsz : ∀ i, i < n → (s i).size ≤ 9223372036854775807) (hn : n ≤ c) (hn2 : n ≤ 9223372036854775807) (ho : opens n s) (hN : NameS nm) (hF : (fndOf n s nm).2 ≠ 0) :
    Calls Tryd.prog 47 #[.slice A n c, .string nm] w fun r w' => r = .returned (noChain ((fndOf n s nm).2 : Int)) ∧ Below w.heap.size w w' := by
  have hs1 : Sl (w.alloc (.cells #[.string ⟨#[]⟩, .int .i64 0, .int .i64 0, .bool false, .bool false] 77)) (w.alloc (.cells #[.string ⟨#[]⟩, .int .i64 0, .int .i64 0, .bool false, .bool false] 77)).heap.size A n (fun i => .string (s i)) := (hs.alloc (Nat.le_refl _) _).more (by simp)
  have HB0 := Lib.hid ((Below.refl w.heap.size w).alloc (Nat.le_refl _) (.cells #[.string ⟨#[]⟩, .int .i64 0, .int .i64 0, .bool false, .bool false] 77))
  have HR0 := Lib.hid (Rw.new w 77 #[.string ⟨#[]⟩, .int .i64 0, .int .i64 0, .bool false, .bool false])
  have HSZ := Lib.hid (show (w.alloc (.cells #[.string ⟨#[]⟩, .int .i64 0, .int .i64 0, .bool false, .bool false] 77)).heap.size = w.heap.size + 1 by simp)
  have HO := Lib.hid (implOpen hs1 hsz hn hn2)
  have HL := Lib.hid ho
  have HN := Lib.hid (fun w : World => implIsName_any nm hnm true (by simpa using hN) w)
  obtain ⟨f1, f2, f3, f4, f5, f6⟩ := walk_fit ho.1
  unfold fndOf at hF
  unfold fndOf
  obtain ⟨z, hz⟩ : ∃ z, (s 0).size = z := ⟨_, rfl⟩
  obtain ⟨E, hE⟩ : ∃ E, entsN n = E := ⟨_, rfl⟩
  obtain ⟨U, hU⟩ : ∃ U, joinU z s = U := ⟨_, rfl⟩
  rw [hz, hE] at f6
  rw [hz] at f2 f3 f5
  rw [hE] at f4
  rw [hz, hU, hE] at hF
  rw [hz, hU, hE]
  have HZ := Lib.hid hz
  have HEE := Lib.hid hE
  have HUU := Lib.hid hU
  have F6 := Lib.hid f6
  obtain ⟨F, hFF⟩ : ∃ F, findGo n z U nm E 0 = F := ⟨_, rfl⟩
  rw [hFF] at hF
  have HF := Lib.hid hFF
  have HFE := Lib.hid (show findE n z U F = ⟨⟨#[]⟩, 0, 0, false, false⟩ by unfold findE; rw [if_neg hF]; rfl)
  have hf0 : ((F.2 : Int) == 0) = false := by simp; omega
  have hf1 : ((F.2 : Int) != 0) = true := by simp; omega
  have hfz : F.1 = 0 := by have := (findGo_ok (n := n) (z := z) (U := U) (nm := nm) E 0).2.2; rw [hFF] at this; exact this hF
  rw [hFF]
  clear ho hs hs1 hsz hN hz hE hU hFF hF f6
  go_enter Tryd.func47, Tryd.ntmps47
  go_wp2_with (first
    | (go_at_call 35; refine HO.out.mono ?_; rintro r w1 ⟨h1, _⟩; obtain ⟨p, rfl, ow⟩ := h1 HL.out; rw [HZ.out] at ow; obtain ⟨g, cc, hc, hcap, hb1, hp, hg⟩ := ow; rw [HUU.out, HEE.out] at hc; have r1 := HR0.out.below hb1 HR0.out.lt; have k0 := r1.cell 0; have fk0 := r1.frozen 0; have k1 := r1.cell 1; have fk1 := r1.frozen 1; have k2 := r1.cell 2; have fk2 := r1.frozen 2; have k3 := r1.cell 3; have fk3 := r1.frozen 3; have k4 := r1.cell 4; have fk4 := r1.frozen 4)
    | (go_at_call 54; refine (HN.out _).mono ?_; rintro e w' ⟨rfl, rfl⟩)
    | (go_at_call 76; refine (implFind_any nm hc f3 hcap f4 rfl F6.out).mono ?_; rw [HF.out, HFE.out]; rintro e2 w2 ⟨rfl, hb2⟩; unfold Ent.val entV; dsimp only; have r2 := r1.below hb2 r1.lt; have r2a := r2.alloc (.cells #[.string ⟨#[]⟩, .int .i64 0, .int .i64 0, .bool false, .bool false] 77); have hc2 := (hc.below hb2).below ((Below.refl w2.heap.size w2).alloc (Nat.le_refl _) (.cells #[.string ⟨#[]⟩, .int .i64 0, .int .i64 0, .bool false, .bool false] 77)); have rE := Rw.new w2 77 #[.string ⟨#[]⟩, .int .i64 0, .int .i64 0, .bool false, .bool false]; have m0 := r2a.cell 0; have fm0 := r2a.frozen 0; have m1 := r2a.cell 1; have fm1 := r2a.frozen 1; have m2 := r2a.cell 2; have fm2 := r2a.frozen 2; have m3 := r2a.cell 3; have fm3 := r2a.frozen 3; have m4 := r2a.cell 4; have fm4 := r2a.frozen 4; have q0 := rE.cell 0; have q1 := rE.cell 1; have q2 := rE.cell 2; have q3 := rE.cell 3; have q4 := rE.cell 4))
  have hrs := rowset5 r2a (.string ⟨#[]⟩) (.int .i64 0) (.int .i64 0) (.bool false) (.bool false)
  exact bodyPost_ret (v := noChain (F.2 : Int)) (by simp [results, Tryd.results47, go_sem, noChain, Ent.val, entV, ent0, hrs]) rfl ⟨rfl, (((((((HB0.out.trans (hb1.mono HB0.out.size)).trans (hb2.mono (Nat.le_trans HB0.out.size hb1.size))).alloc (Nat.le_trans HB0.out.size (Nat.le_trans hb1.size hb2.size)) (.cells #[.string ⟨#[]⟩, .int .i64 0, .int .i64 0, .bool false, .bool false] 77)).setCell (Nat.le_refl _) _).setCell (Nat.le_refl _) _).setCell (Nat.le_refl _) _).setCell (Nat.le_refl _) _).setCell (Nat.le_refl _) _⟩
set_option maxHeartbeats 1000000 in
theorem implOpenChain_chain {w : World} {n c : Nat} {A : Option Addr} {s : Nat → ByteArray} (nm : ByteArray) (hnm : nm.size ≤ 9223372036854775807) (hs : Sl w w.heap.size A n (fun i => .string (s i))) (hsz : ∀ i, i < n → (s i).size ≤ 9223372036854775807) (hn : n ≤ c) (hn2 : n ≤ 9223372036854775807) (ho : opens n s) (hN : NameS nm) (hF : (fndOf n s nm).2 = 0) (hC : (chOf n s nm).2 ≠ 0) :
    Calls Tryd.prog 47 #[.slice A n c, .string nm] w fun r w' => r = .returned (noChain ((chOf n s nm).2 : Int)) ∧ Below w.heap.size w w' := by
  have hs1 : Sl (w.alloc (.cells #[.string ⟨#[]⟩, .int .i64 0, .int .i64 0, .bool false, .bool false] 77)) (w.alloc (.cells #[.string ⟨#[]⟩, .int .i64 0, .int .i64 0, .bool false, .bool false] 77)).heap.size A n (fun i => .string (s i)) := (hs.alloc (Nat.le_refl _) _).more (by simp)
  have HB0 := Lib.hid ((Below.refl w.heap.size w).alloc (Nat.le_refl _) (.cells #[.string ⟨#[]⟩, .int .i64 0, .int .i64 0, .bool false, .bool false] 77))
  have HR0 := Lib.hid (Rw.new w 77 #[.string ⟨#[]⟩, .int .i64 0, .int .i64 0, .bool false, .bool false])
  have HSZ := Lib.hid (show (w.alloc (.cells #[.string ⟨#[]⟩, .int .i64 0, .int .i64 0, .bool false, .bool false] 77)).heap.size = w.heap.size + 1 by simp)
  have HO := Lib.hid (implOpen hs1 hsz hn hn2)
  have HL := Lib.hid ho
  have HN := Lib.hid (fun w : World => implIsName_any nm hnm true (by simpa using hN) w)
  obtain ⟨f1, f2, f3, f4, f5, f6⟩ := walk_fit ho.1
  unfold fndOf at hF
  unfold chOf entOfN fndOf at hC
  unfold chOf entOfN fndOf
  obtain ⟨z, hz⟩ : ∃ z, (s 0).size = z := ⟨_, rfl⟩
  obtain ⟨E, hE⟩ : ∃ E, entsN n = E := ⟨_, rfl⟩
  obtain ⟨U, hU⟩ : ∃ U, joinU z s = U := ⟨_, rfl⟩
  rw [hz, hE] at f6
  rw [hz] at f2 f3 f5
  rw [hE] at f4
  rw [hz, hU, hE] at hF
  rw [hz, hU, hE] at hC ⊢
  have HZ := Lib.hid hz
  have HEE := Lib.hid hE
  have HUU := Lib.hid hU
  have F6 := Lib.hid f6
  obtain ⟨F, hFF⟩ : ∃ F, findGo n z U nm E 0 = F := ⟨_, rfl⟩
  rw [hFF] at hF
  have HF := Lib.hid hFF
  rw [hFF] at hC ⊢
  obtain ⟨e, he⟩ : ∃ e, entK n z U F.1 = e := ⟨_, rfl⟩
  have HFE0 := show findE n z U F = entK n z U F.1 by unfold findE; rw [if_pos hF]
  rw [he] at HFE0
  have hval := (entryOf_facts (fun i => U (dirN n z * z + F.1 * 12 + i))).2.1
  rw [show entryOf (fun i => U (dirN n z * z + F.1 * 12 + i)) = entK n z U F.1 from rfl, he] at hval
  obtain ⟨en, ef, el, eu, ed⟩ := e
  have HFE := Lib.hid HFE0
  have hef : ef ≤ 255 := hval
  have hf0 : ((F.2 : Int) == 0) = true := by simp; omega
  have hf1 : ((F.2 : Int) != 0) = false := by simp; omega
  obtain ⟨Ch, hCh⟩ : ∃ Ch, chainOf (dataN n z) n (lkN z U) ef = Ch := ⟨_, rfl⟩
  have HCH := Lib.hid hCh
  rw [he] at hC ⊢
  dsimp only at hC ⊢
  rw [hCh] at hC ⊢
  have hc0 : ((Ch.2 : Int) == 0) = false := by simp; omega
  have hc1 : ((Ch.2 : Int) != 0) = true := by simp; omega
  clear ho hs hs1 hsz hN hz hE hU hFF hF f6 he hval HFE0 hCh
  go_enter Tryd.func47, Tryd.ntmps47
  go_wp2_with (first
    | (go_at_call 35; refine HO.out.mono ?_; rintro r w1 ⟨h1, _⟩; obtain ⟨p, rfl, ow⟩ := h1 HL.out; rw [HZ.out] at ow; obtain ⟨g, cc, hc, hcap, hb1, hp, hg⟩ := ow; rw [HUU.out, HEE.out] at hc; have r1 := HR0.out.below hb1 HR0.out.lt; have k0 := r1.cell 0; have fk0 := r1.frozen 0; have k1 := r1.cell 1; have fk1 := r1.frozen 1; have k2 := r1.cell 2; have fk2 := r1.frozen 2; have k3 := r1.cell 3; have fk3 := r1.frozen 3; have k4 := r1.cell 4; have fk4 := r1.frozen 4)
    | (go_at_call 54; refine (HN.out _).mono ?_; rintro e w' ⟨rfl, rfl⟩)
    | (go_at_call 76; refine (implFind_any nm hc f3 hcap f4 rfl F6.out).mono ?_; rw [HF.out, HFE.out]; rintro e2 w2 ⟨rfl, hb2⟩; unfold Ent.val entV; dsimp only; have r2 := r1.below hb2 r1.lt; have r2a := r2.alloc (.cells #[.string en, .int .i64 ef, .int .i64 el, .bool eu, .bool ed] 77); have hc2 := (hc.below hb2).below ((Below.refl w2.heap.size w2).alloc (Nat.le_refl _) (.cells #[.string en, .int .i64 ef, .int .i64 el, .bool eu, .bool ed] 77)); have rE := Rw.new w2 77 #[.string en, .int .i64 ef, .int .i64 el, .bool eu, .bool ed]; have m0 := r2a.cell 0; have fm0 := r2a.frozen 0; have m1 := r2a.cell 1; have fm1 := r2a.frozen 1; have m2 := r2a.cell 2; have fm2 := r2a.frozen 2; have m3 := r2a.cell 3; have fm3 := r2a.frozen 3; have m4 := r2a.cell 4; have fm4 := r2a.frozen 4; have q0 := rE.cell 0; have q1 := rE.cell 1; have q2 := rE.cell 2; have q3 := rE.cell 3; have q4 := rE.cell 4)
    | (go_at_call 77; refine (implChain_any ef (by omega) hc2 f1 f2 f3).mono ?_; rw [HCH.out]; rintro e3 w3 ⟨A3, c3, rfl, hi3, hb3⟩; have r3 := r2a.below hb3 r2a.lt; have rE3 := rE.below hb3 rE.lt; have u0 := r3.cell 0; have fu0 := r3.frozen 0; have u1 := r3.cell 1; have fu1 := r3.frozen 1; have u2 := r3.cell 2; have fu2 := r3.frozen 2; have u3 := r3.cell 3; have fu3 := r3.frozen 3; have u4 := r3.cell 4; have fu4 := r3.frozen 4; have v0 := rE3.cell 0; have v1 := rE3.cell 1; have v2 := rE3.cell 2; have v3 := rE3.cell 3; have v4 := rE3.cell 4))
  have hrs := rowset5 r3 (.string ⟨#[]⟩) (.int .i64 0) (.int .i64 0) (.bool false) (.bool false)
  exact bodyPost_ret (v := noChain (Ch.2 : Int)) (by simp [results, Tryd.results47, go_sem, noChain, Ent.val, entV, ent0, hrs]) rfl ⟨rfl, (((((((((HB0.out.trans (hb1.mono HB0.out.size)).trans (hb2.mono (Nat.le_trans HB0.out.size hb1.size))).alloc (Nat.le_trans HB0.out.size (Nat.le_trans hb1.size hb2.size)) (.cells #[.string en, .int .i64 ef, .int .i64 el, .bool eu, .bool ed] 77))).trans (hb3.mono ((((HB0.out.trans (hb1.mono HB0.out.size)).trans (hb2.mono (Nat.le_trans HB0.out.size hb1.size))).alloc (Nat.le_trans HB0.out.size (Nat.le_trans hb1.size hb2.size)) (.cells #[.string en, .int .i64 ef, .int .i64 el, .bool eu, .bool ed] 77))).size)).setCell (Nat.le_refl _) _).setCell (Nat.le_refl _) _).setCell (Nat.le_refl _) _).setCell (Nat.le_refl _) _).setCell (Nat.le_refl _) _⟩
set_option maxHeartbeats 1000000 in
theorem implOpenChain_ok {w : World} {n c : Nat} {A : Option Addr} {s : Nat → ByteArray} (nm : ByteArray) (hnm : nm.size ≤ 9223372036854775807) (hs : Sl w w.heap.size A n (fun i => .string (s i))) (hsz : ∀ i, i < n → (s i).size ≤ 9223372036854775807) (hn : n ≤ c) (hn2 : n ≤ 9223372036854775807) (ho : opens n s) (hN : NameS nm) (hF : (fndOf n s nm).2 = 0) (hC : (chOf n s nm).2 = 0) :
    Calls Tryd.prog 47 #[.slice A n c, .string nm] w fun r w' => ∃ p g cc A c B, r = .returned (.tuple #[.pointer (some ⟨p, 0, none⟩), .int .i64 ((fndOf n s nm).1 : Int), (entOfN n s nm).val, .slice A (chOf n s nm).1.length c, .int .i64 0]) ∧ ChW w' p g n (s 0).size (entsN n) (dirN n (s 0).size) (dataN n (s 0).size) (n * (s 0).size) cc (joinU (s 0).size s) ∧ n * (s 0).size ≤ cc ∧ Below w.heap.size w w' ∧ w.heap.size ≤ p ∧ w.heap.size ≤ g ∧ IntsR B w' A c (chOf n s nm).1 ∧ g < B ∧ p < B ∧ w.heap.size ≤ B := by
  have hs1 : Sl (w.alloc (.cells #[.string ⟨#[]⟩, .int .i64 0, .int .i64 0, .bool false, .bool false] 77)) (w.alloc (.cells #[.string ⟨#[]⟩, .int .i64 0, .int .i64 0, .bool false, .bool false] 77)).heap.size A n (fun i => .string (s i)) := (hs.alloc (Nat.le_refl _) _).more (by simp)
  have HB0 := Lib.hid ((Below.refl w.heap.size w).alloc (Nat.le_refl _) (.cells #[.string ⟨#[]⟩, .int .i64 0, .int .i64 0, .bool false, .bool false] 77))
  have HR0 := Lib.hid (Rw.new w 77 #[.string ⟨#[]⟩, .int .i64 0, .int .i64 0, .bool false, .bool false])
  have HSZ := Lib.hid (show (w.alloc (.cells #[.string ⟨#[]⟩, .int .i64 0, .int .i64 0, .bool false, .bool false] 77)).heap.size = w.heap.size + 1 by simp)
  have HO := Lib.hid (implOpen hs1 hsz hn hn2)
  have HL := Lib.hid ho
  have HN := Lib.hid (fun w : World => implIsName_any nm hnm true (by simpa using hN) w)
  obtain ⟨f1, f2, f3, f4, f5, f6⟩ := walk_fit ho.1
  unfold fndOf at hF
  unfold chOf entOfN fndOf at hC
  unfold chOf entOfN fndOf
  obtain ⟨z, hz⟩ : ∃ z, (s 0).size = z := ⟨_, rfl⟩
  obtain ⟨E, hE⟩ : ∃ E, entsN n = E := ⟨_, rfl⟩
  obtain ⟨U, hU⟩ : ∃ U, joinU z s = U := ⟨_, rfl⟩
  rw [hz, hE] at f6
  rw [hz] at f2 f3 f5
  rw [hE] at f4
  rw [hz, hU, hE] at hF
  rw [hz, hU, hE] at hC ⊢
  have HZ := Lib.hid hz
  have HEE := Lib.hid hE
  have HUU := Lib.hid hU
  have F6 := Lib.hid f6
  obtain ⟨F, hFF⟩ : ∃ F, findGo n z U nm E 0 = F := ⟨_, rfl⟩
  rw [hFF] at hF
  have HF := Lib.hid hFF
  rw [hFF] at hC ⊢
  obtain ⟨e, he⟩ : ∃ e, entK n z U F.1 = e := ⟨_, rfl⟩
  have HFE0 := show findE n z U F = entK n z U F.1 by unfold findE; rw [if_pos hF]
  rw [he] at HFE0
  have hval := (entryOf_facts (fun i => U (dirN n z * z + F.1 * 12 + i))).2.1
  rw [show entryOf (fun i => U (dirN n z * z + F.1 * 12 + i)) = entK n z U F.1 from rfl, he] at hval
  obtain ⟨en, ef, el, eu, ed⟩ := e
  have HFE := Lib.hid HFE0
  have hef : ef ≤ 255 := hval
  have hf0 : ((F.2 : Int) == 0) = true := by simp; omega
  have hf1 : ((F.2 : Int) != 0) = false := by simp; omega
  obtain ⟨Ch, hCh⟩ : ∃ Ch, chainOf (dataN n z) n (lkN z U) ef = Ch := ⟨_, rfl⟩
  have HCH := Lib.hid hCh
  rw [he] at hC ⊢
  dsimp only at hC ⊢
  rw [hCh] at hC ⊢
  have hc0 : ((Ch.2 : Int) == 0) = true := by simp; omega
  have hc1 : ((Ch.2 : Int) != 0) = false := by simp; omega
  clear ho hs hs1 hsz hN hz hE hU hFF hF f6 he hval HFE0 hCh
  go_enter Tryd.func47, Tryd.ntmps47
  go_wp2_with (first
    | (go_at_call 35; refine HO.out.mono ?_; rintro r w1 ⟨h1, _⟩; obtain ⟨p, rfl, ow⟩ := h1 HL.out; rw [HZ.out] at ow; obtain ⟨g, cc, hc, hcap, hb1, hp, hg⟩ := ow; rw [HUU.out, HEE.out] at hc; have r1 := HR0.out.below hb1 HR0.out.lt; have k0 := r1.cell 0; have fk0 := r1.frozen 0; have k1 := r1.cell 1; have fk1 := r1.frozen 1; have k2 := r1.cell 2; have fk2 := r1.frozen 2; have k3 := r1.cell 3; have fk3 := r1.frozen 3; have k4 := r1.cell 4; have fk4 := r1.frozen 4)
    | (go_at_call 54; refine (HN.out _).mono ?_; rintro e w' ⟨rfl, rfl⟩)
    | (go_at_call 76; refine (implFind_any nm hc f3 hcap f4 rfl F6.out).mono ?_; rw [HF.out, HFE.out]; rintro e2 w2 ⟨rfl, hb2⟩; unfold Ent.val entV; dsimp only; have r2 := r1.below hb2 r1.lt; have r2a := r2.alloc (.cells #[.string en, .int .i64 ef, .int .i64 el, .bool eu, .bool ed] 77); have hc2 := (hc.below hb2).below ((Below.refl w2.heap.size w2).alloc (Nat.le_refl _) (.cells #[.string en, .int .i64 ef, .int .i64 el, .bool eu, .bool ed] 77)); have rE := Rw.new w2 77 #[.string en, .int .i64 ef, .int .i64 el, .bool eu, .bool ed]; have m0 := r2a.cell 0; have fm0 := r2a.frozen 0; have m1 := r2a.cell 1; have fm1 := r2a.frozen 1; have m2 := r2a.cell 2; have fm2 := r2a.frozen 2; have m3 := r2a.cell 3; have fm3 := r2a.frozen 3; have m4 := r2a.cell 4; have fm4 := r2a.frozen 4; have q0 := rE.cell 0; have q1 := rE.cell 1; have q2 := rE.cell 2; have q3 := rE.cell 3; have q4 := rE.cell 4)
    | (go_at_call 77; refine (implChain_any ef (by omega) hc2 f1 f2 f3).mono ?_; rw [HCH.out]; rintro e3 w3 ⟨A3, c3, rfl, hi3, hb3⟩; have r3 := r2a.below hb3 r2a.lt; have rE3 := rE.below hb3 rE.lt; have u0 := r3.cell 0; have fu0 := r3.frozen 0; have u1 := r3.cell 1; have fu1 := r3.frozen 1; have u2 := r3.cell 2; have fu2 := r3.frozen 2; have u3 := r3.cell 3; have fu3 := r3.frozen 3; have u4 := r3.cell 4; have fu4 := r3.frozen 4; have v0 := rE3.cell 0; have v1 := rE3.cell 1; have v2 := rE3.cell 2; have v3 := rE3.cell 3; have v4 := rE3.cell 4))
  go_region
  go_wp2_with fail
  have hrs := rowset5 r3 (.string en) (.int .i64 ef) (.int .i64 el) (.bool eu) (.bool ed)
  have hB3 := ((((HB0.out.trans (hb1.mono HB0.out.size)).trans (hb2.mono (Nat.le_trans HB0.out.size hb1.size))).alloc (Nat.le_trans HB0.out.size (Nat.le_trans hb1.size hb2.size)) (.cells #[.string en, .int .i64 ef, .int .i64 el, .bool eu, .bool ed] 77))).trans (hb3.mono ((((HB0.out.trans (hb1.mono HB0.out.size)).trans (hb2.mono (Nat.le_trans HB0.out.size hb1.size))).alloc (Nat.le_trans HB0.out.size (Nat.le_trans hb1.size hb2.size)) (.cells #[.string en, .int .i64 ef, .int .i64 el, .bool eu, .bool ed] 77))).size)
  have hp0 : p ≠ w.heap.size := by have := HSZ.out; omega
  have hg0 : g ≠ w.heap.size := by have := HSZ.out; omega
  have hC3 := hc2.below hb3
  have hpl := hc2.plt
  have hgl := hc2.row.lt
  have hBz : w.heap.size < (w2.alloc (.cells #[.string en, .int .i64 ef, .int .i64 el, .bool eu, .bool ed] 77)).heap.size := by have := HB0.out.size; have := hb1.size; have := hb2.size; have := HSZ.out; simp; omega
  exact bodyPost_ret (v := .tuple #[.pointer (some ⟨p, 0, none⟩), .int .i64 (F.1 : Int), entV en ef el eu ed, .slice A3 Ch.1.length c3, .int .i64 0]) (by simp [results, Tryd.results47, go_sem, entV, hrs]) rfl ⟨p, g, cc, A3, c3, _, rfl, (((((hC3.far hp0 hg0 _ _).far hp0 hg0 _ _).far hp0 hg0 _ _).far hp0 hg0 _ _).far hp0 hg0 _ _).drew, hcap, (((((hB3.setCell (Nat.le_refl _) _).setCell (Nat.le_refl _) _).setCell (Nat.le_refl _) _).setCell (Nat.le_refl _) _).setCell (Nat.le_refl _) _).drew, by have := HSZ.out; omega, by have := HSZ.out; omega, (((((hi3.far hBz _).far hBz _).far hBz _).far hBz _).far hBz _).drew, hgl, hpl, Nat.le_of_lt hBz⟩
theorem askCode_zero {n : Nat} {s : Nat → ByteArray} {nm : ByteArray} (h : askCode n s nm = 0) : opens n s ∧ NameS nm ∧ (fndOf n s nm).2 = 0 ∧ (chOf n s nm).2 = 0 := by
  unfold askCode at h
  split at h
  · rename_i h1
    split at h
    · rename_i h2
      split at h
      · rename_i h3
        exact ⟨h1, h2, h3, by omega⟩
      · omega
    · omega
  · have := openCode_ne n s; omega
theorem implOpenChain_bad {w : World} {n c : Nat} {A : Option Addr} {s : Nat → ByteArray} (nm : ByteArray) (hnm : nm.size ≤ 9223372036854775807) (hs : Sl w w.heap.size A n (fun i => .string (s i))) (hsz : ∀ i, i < n → (s i).size ≤ 9223372036854775807) (hn : n ≤ c) (hn2 : n ≤ 9223372036854775807) (hc : askCode n s nm ≠ 0) : Calls Tryd.prog 47 #[.slice A n c, .string nm] w fun r w' => r = .returned (noChain (askCode n s nm)) ∧ Below w.heap.size w w' := by
  open Classical in
  by_cases ho : opens n s
  · by_cases hN : NameS nm
    · by_cases hF : (fndOf n s nm).2 = 0
      · have e : askCode n s nm = ((chOf n s nm).2 : Int) := by unfold askCode; rw [if_pos ho, if_pos hN, if_pos hF]
        rw [e] at hc ⊢
        exact implOpenChain_chain nm hnm hs hsz hn hn2 ho hN hF (by omega)
      · have e : askCode n s nm = ((fndOf n s nm).2 : Int) := by unfold askCode; rw [if_pos ho, if_pos hN, if_neg hF]
        rw [e]
        exact implOpenChain_find nm hnm hs hsz hn hn2 ho hN hF
    · have e : askCode n s nm = 1 := by unfold askCode; rw [if_pos ho, if_neg hN]
      rw [e]
      exact implOpenChain_name nm hnm hs hsz hn hn2 ho hN
  · have e : askCode n s nm = openCode n s := by unfold askCode; rw [if_neg ho]
    rw [e]
    exact implOpenChain_shut nm hnm hs hsz hn hn2 ho
end Go.Proofs.YtgmmigbaaigldaaDoor
