/-
  Disks of chains: a disk is opened with a deleted entry, both sides.
-/
import Derived.Test.YtgmmigbaaigldaaGreatDoorGbP
namespace Go.Proofs.YtgmmigbaaigldaaGreatDoor
open Go Go.ChangeShapes Go.WideShapes Go.ChangeAt Go.RowKit lib
set_option linter.unusedVariables false
set_option maxRecDepth 100000
/-- the result of an opening that fails -/
def noGone (code : Int) : Value := .tuple #[.pointer none, ent0.val, .int .i64 code]
theorem chw_far2 {w : World} {p g n z e d t N c q : Nat} {u : Nat → UInt8} (h : ChW w p g n z e d t N c u) (hp : p ≠ q) (hg : g ≠ q) (j : Nat) (x : Value) : ChW (w.setCell ⟨q, j, none⟩ x) p g n z e d t N c u :=
  h.keep (Below.heap_setCell w ⟨q, j, none⟩ x p hp) (by simp [World.setCell]) (h.row.keep (Below.heap_setCell w ⟨q, j, none⟩ x g hg))
theorem entOut_de {r : Ending} {w w' : World} {v : Nat → UInt8} {nm : ByteArray} {f l : Nat} {us : Bool} (h : EntOut r w w' v) (he : entryOf v = ⟨nm, f, l, us, true⟩) : r = .returned (.tuple #[.agg #[.string nm, .int .i64 f, .int .i64 l, .bool us, .bool true], .bool true]) ∧ Below w.heap.size w w' := by
  obtain ⟨b, nm', f', l', us', de', hb, he', hr, hw, _, _, _, hbf⟩ := entOut_parts h
  rw [he] at he'
  injection he' with h1 h2 h3 h4 h5
  subst h1 h2 h3 h4 h5
  cases b
  · exact absurd (hbf rfl).2 (by simp)
  · exact ⟨hr, hw⟩
theorem entOut_not {r : Ending} {w w' : World} {v : Nat → UInt8} (h : EntOut r w w' v) (he : (entryOf v).de = false) : ∃ (b : Bool) (nm : ByteArray) (f l : Nat) (us : Bool), r = .returned (.tuple #[.agg #[.string nm, .int .i64 f, .int .i64 l, .bool us, .bool false], .bool b]) ∧ Below w.heap.size w w' := by
  obtain ⟨b, nm', f', l', us', de', hb, he', hr, hw, _, _, _, hbf⟩ := entOut_parts h
  rw [he'] at he
  dsimp only at he
  subst he
  exact ⟨b, nm', f', l', us', hr, hw⟩
open Classical in
/-- how the opening ends -/
noncomputable def goneCode (n : Nat) (s : Nat → ByteArray) (k : Int) : Int := if opens n s then if 0 ≤ k ∧ k < (entsN n : Int) then if (entK n (s 0).size (joinU (s 0).size s) k.toNat).de = true then 0 else 3 else 2 else openCode n s
theorem implGone_shut {w : World} {n c : Nat} {A : Option Addr} {s : Nat → ByteArray} (k : Int) (hs : Sl w w.heap.size A n (fun i => .string (s i))) (hsz : ∀ i, i < n → (s i).size ≤ 9223372036854775807) (hn : n ≤ c) (hn2 : n ≤ 9223372036854775807) (ho : ¬ opens n s) :
    Calls Tryz.prog 23 #[.slice A n c, .int .i64 k] w fun r w' => r = .returned (noGone (openCode n s)) ∧ Below w.heap.size w w' := by
  have hs1 : Sl (w.alloc (.cells #[.string ⟨#[]⟩, .int .i64 0, .int .i64 0, .bool false, .bool false] 34)) (w.alloc (.cells #[.string ⟨#[]⟩, .int .i64 0, .int .i64 0, .bool false, .bool false] 34)).heap.size A n (fun i => .string (s i)) := (hs.alloc (Nat.le_refl _) _).more (by simp)
  have HB0 := Lib.hid ((Below.refl w.heap.size w).alloc (Nat.le_refl _) (.cells #[.string ⟨#[]⟩, .int .i64 0, .int .i64 0, .bool false, .bool false] 34))
  have HR0 := Lib.hid (Rw.new w 34 #[.string ⟨#[]⟩, .int .i64 0, .int .i64 0, .bool false, .bool false])
  have HSZ := Lib.hid (show (w.alloc (.cells #[.string ⟨#[]⟩, .int .i64 0, .int .i64 0, .bool false, .bool false] 34)).heap.size = w.heap.size + 1 by simp)
  have HO := Lib.hid (implOpen hs1 hsz hn hn2)
  have HL := Lib.hid ho
  have hne := openCode_ne n s
  obtain ⟨code, hcode⟩ : ∃ code, openCode n s = code := ⟨_, rfl⟩
  rw [hcode] at hne ⊢
  have HCD := Lib.hid hcode
  clear ho hs hs1 hsz hcode
  rcases hne with rfl | rfl
  all_goals
    go_enter Tryz.func23, Tryz.ntmps23
    go_wp2_with (go_at_call 32; refine HO.out.mono ?_; rintro r w1 ⟨_, h1⟩; have h2 := h1 HL.out; rw [HCD.out] at h2; obtain ⟨rfl, hb1⟩ := h2; have r1 := HR0.out.below hb1 HR0.out.lt; have k0 := r1.cell 0; have fk0 := r1.frozen 0; have k1 := r1.cell 1; have fk1 := r1.frozen 1; have k2 := r1.cell 2; have fk2 := r1.frozen 2; have k3 := r1.cell 3; have fk3 := r1.frozen 3; have k4 := r1.cell 4; have fk4 := r1.frozen 4)
    have hrs := rowset5 r1 (.string ⟨#[]⟩) (.int .i64 0) (.int .i64 0) (.bool false) (.bool false)
    first
    | exact bodyPost_ret (v := noGone 1) (by simp [results, Tryz.results23, go_sem, noGone, Ent.val, entV, ent0, hrs]) rfl ⟨rfl, ((((((HB0.out.trans (hb1.mono HB0.out.size)).setCell (Nat.le_refl _) _).setCell (Nat.le_refl _) _).setCell (Nat.le_refl _) _).setCell (Nat.le_refl _) _).setCell (Nat.le_refl _) _)⟩
    | exact bodyPost_ret (v := noGone 7) (by simp [results, Tryz.results23, go_sem, noGone, Ent.val, entV, ent0, hrs]) rfl ⟨rfl, ((((((HB0.out.trans (hb1.mono HB0.out.size)).setCell (Nat.le_refl _) _).setCell (Nat.le_refl _) _).setCell (Nat.le_refl _) _).setCell (Nat.le_refl _) _).setCell (Nat.le_refl _) _)⟩
theorem implGone_range {w : World} {n c : Nat} {A : Option Addr} {s : Nat → ByteArray} (k : Int) (hs : Sl w w.heap.size A n (fun i => .string (s i))) (hsz : ∀ i, i < n → (s i).size ≤ 9223372036854775807) (hn : n ≤ c) (hn2 : n ≤ 9223372036854775807) (ho : opens n s) (hk : ¬ (0 ≤ k ∧ k < (entsN n : Int))) :
    Calls Tryz.prog 23 #[.slice A n c, .int .i64 k] w fun r w' => r = .returned (noGone 2) ∧ Below w.heap.size w w' := by
  have hs1 : Sl (w.alloc (.cells #[.string ⟨#[]⟩, .int .i64 0, .int .i64 0, .bool false, .bool false] 34)) (w.alloc (.cells #[.string ⟨#[]⟩, .int .i64 0, .int .i64 0, .bool false, .bool false] 34)).heap.size A n (fun i => .string (s i)) := (hs.alloc (Nat.le_refl _) _).more (by simp)
  have HB0 := Lib.hid ((Below.refl w.heap.size w).alloc (Nat.le_refl _) (.cells #[.string ⟨#[]⟩, .int .i64 0, .int .i64 0, .bool false, .bool false] 34))
  have HR0 := Lib.hid (Rw.new w 34 #[.string ⟨#[]⟩, .int .i64 0, .int .i64 0, .bool false, .bool false])
  have HSZ := Lib.hid (show (w.alloc (.cells #[.string ⟨#[]⟩, .int .i64 0, .int .i64 0, .bool false, .bool false] 34)).heap.size = w.heap.size + 1 by simp)
  have HO := Lib.hid (implOpen hs1 hsz hn hn2)
  have HL := Lib.hid ho
  obtain ⟨f1, f2, f3, f4, f5, f6⟩ := walk_fit ho.1
  obtain ⟨z, hz⟩ : ∃ z, (s 0).size = z := ⟨_, rfl⟩
  obtain ⟨E, hE⟩ : ∃ E, entsN n = E := ⟨_, rfl⟩
  obtain ⟨U, hU⟩ : ∃ U, joinU z s = U := ⟨_, rfl⟩
  rw [hz, hE] at f6
  rw [hz] at f2 f3 f5
  rw [hE] at f4
  rw [hE] at hk
  have HZ := Lib.hid hz
  have HEE := Lib.hid hE
  have HUU := Lib.hid hU
  have F6 := Lib.hid f6
  have HW : Hid (∀ W : World, Calls Tryz.prog 41 #[.int .i64 k, .int .i64 0, .int .i64 ((E : Int) - 1)] W fun e w' => e = .returned (.bool false) ∧ w' = W) := Lib.hid (fun W => (within_any _ _ _ _).mono fun e w' h => ⟨by rw [h.1]; congr 2; simp; omega, h.2.symm⟩)
  have e1 : IntKind.i64.wrap ((E : Int) - 1) = (E : Int) - 1 := by rw [IntKind.wrap_i64]; omega
  clear ho hs hs1 hsz hz hE hU hk f6
  go_enter Tryz.func23, Tryz.ntmps23
  go_wp2_with (first
    | (go_at_call 32; refine HO.out.mono ?_; rintro r w1 ⟨h1, _⟩; obtain ⟨p, rfl, ow⟩ := h1 HL.out; rw [HZ.out] at ow; obtain ⟨g, cc, hc, hcap, hb1, hp, hg⟩ := ow; rw [HUU.out, HEE.out] at hc; have c2 := hc.c2; have r1 := HR0.out.below hb1 HR0.out.lt; have k0 := r1.cell 0; have fk0 := r1.frozen 0; have k1 := r1.cell 1; have fk1 := r1.frozen 1; have k2 := r1.cell 2; have fk2 := r1.frozen 2; have k3 := r1.cell 3; have fk3 := r1.frozen 3; have k4 := r1.cell 4; have fk4 := r1.frozen 4)
    | (go_at_call 41; refine (HW.out _).mono ?_; rintro e w' ⟨rfl, rfl⟩))
  have hrs := rowset5 r1 (.string ⟨#[]⟩) (.int .i64 0) (.int .i64 0) (.bool false) (.bool false)
  exact bodyPost_ret (v := noGone 2) (by simp [results, Tryz.results23, go_sem, noGone, Ent.val, entV, ent0, hrs]) rfl ⟨rfl, ((((((HB0.out.trans (hb1.mono HB0.out.size)).setCell (Nat.le_refl _) _).setCell (Nat.le_refl _) _).setCell (Nat.le_refl _) _).setCell (Nat.le_refl _) _).setCell (Nat.le_refl _) _)⟩
set_option maxHeartbeats 1000000 in
theorem implGone_none {w : World} {n c : Nat} {A : Option Addr} {s : Nat → ByteArray} (k : Nat) (hs : Sl w w.heap.size A n (fun i => .string (s i))) (hsz : ∀ i, i < n → (s i).size ≤ 9223372036854775807) (hn : n ≤ c) (hn2 : n ≤ 9223372036854775807) (ho : opens n s) (hk : k < entsN n) (hde : (entK n (s 0).size (joinU (s 0).size s) k).de = false) :
    Calls Tryz.prog 23 #[.slice A n c, .int .i64 k] w fun r w' => r = .returned (noGone 3) ∧ Below w.heap.size w w' := by
  have hs1 : Sl (w.alloc (.cells #[.string ⟨#[]⟩, .int .i64 0, .int .i64 0, .bool false, .bool false] 34)) (w.alloc (.cells #[.string ⟨#[]⟩, .int .i64 0, .int .i64 0, .bool false, .bool false] 34)).heap.size A n (fun i => .string (s i)) := (hs.alloc (Nat.le_refl _) _).more (by simp)
  have HB0 := Lib.hid ((Below.refl w.heap.size w).alloc (Nat.le_refl _) (.cells #[.string ⟨#[]⟩, .int .i64 0, .int .i64 0, .bool false, .bool false] 34))
  have HR0 := Lib.hid (Rw.new w 34 #[.string ⟨#[]⟩, .int .i64 0, .int .i64 0, .bool false, .bool false])
  have HSZ := Lib.hid (show (w.alloc (.cells #[.string ⟨#[]⟩, .int .i64 0, .int .i64 0, .bool false, .bool false] 34)).heap.size = w.heap.size + 1 by simp)
  have HO := Lib.hid (implOpen hs1 hsz hn hn2)
  have HL := Lib.hid ho
  obtain ⟨f1, f2, f3, f4, f5, f6⟩ := walk_fit ho.1
  obtain ⟨z, hz⟩ : ∃ z, (s 0).size = z := ⟨_, rfl⟩
  obtain ⟨E, hE⟩ : ∃ E, entsN n = E := ⟨_, rfl⟩
  obtain ⟨U, hU⟩ : ∃ U, joinU z s = U := ⟨_, rfl⟩
  rw [hz, hE] at f6
  rw [hz] at f2 f3 f5
  rw [hE] at f4
  rw [hE] at hk
  have HZ := Lib.hid hz
  have HEE := Lib.hid hE
  have HUU := Lib.hid hU
  have F6 := Lib.hid f6
  rw [hz, hU] at hde
  have HDE := Lib.hid hde
  have HW : Hid (∀ W : World, Calls Tryz.prog 41 #[.int .i64 k, .int .i64 0, .int .i64 ((E : Int) - 1)] W fun e w' => e = .returned (.bool true) ∧ w' = W) := Lib.hid (fun W => (within_any _ _ _ _).mono fun e w' h => ⟨by rw [h.1]; congr 2; simp; omega, h.2.symm⟩)
  have e1 : IntKind.i64.wrap ((E : Int) - 1) = (E : Int) - 1 := by rw [IntKind.wrap_i64]; omega
  clear ho hs hs1 hsz hz hE hU hde f6
  go_enter Tryz.func23, Tryz.ntmps23
  go_upto_region 7 with (first
    | (go_at_call 32; refine HO.out.mono ?_; rintro r w1 ⟨h1, _⟩; obtain ⟨p, rfl, ow⟩ := h1 HL.out; rw [HZ.out] at ow; obtain ⟨g, cc, hc, hcap, hb1, hp, hg⟩ := ow; rw [HUU.out, HEE.out] at hc; have c2 := hc.c2; have r1 := HR0.out.below hb1 HR0.out.lt; have k0 := r1.cell 0; have fk0 := r1.frozen 0; have k1 := r1.cell 1; have fk1 := r1.frozen 1; have k2 := r1.cell 2; have fk2 := r1.frozen 2; have k3 := r1.cell 3; have fk3 := r1.frozen 3; have k4 := r1.cell 4; have fk4 := r1.frozen 4)
    | (go_at_call 41; refine (HW.out _).mono ?_; rintro e w' ⟨rfl, rfl⟩)
    | (go_at_call 24; refine (implEntry_any k _ hc rfl (F6.out k hk) (by omega) hcap (by omega)).mono ?_; intro e2 w2 h2; obtain ⟨b, nm, f, l, us, rfl, hb2⟩ := entOut_not h2 HDE.out))
  have r2a := (r1.below hb2 r1.lt).alloc (.cells #[.string nm, .int .i64 f, .int .i64 l, .bool us, .bool false] 34)
  have rE := Rw.new w2 34 #[.string nm, .int .i64 f, .int .i64 l, .bool us, .bool false]
  have m0 := r2a.cell 0
  have fm0 := r2a.frozen 0
  have m1 := r2a.cell 1
  have fm1 := r2a.frozen 1
  have m2 := r2a.cell 2
  have fm2 := r2a.frozen 2
  have m3 := r2a.cell 3
  have fm3 := r2a.frozen 3
  have m4 := r2a.cell 4
  have fm4 := r2a.frozen 4
  have q4 := rE.cell 4
  have hrs := rowset5 r2a (.string ⟨#[]⟩) (.int .i64 0) (.int .i64 0) (.bool false) (.bool false)
  have hB := ((HB0.out.trans (hb1.mono HB0.out.size)).trans (hb2.mono (Nat.le_trans HB0.out.size hb1.size))).alloc (Nat.le_trans HB0.out.size (Nat.le_trans hb1.size hb2.size)) (.cells #[.string nm, .int .i64 f, .int .i64 l, .bool us, .bool false] 34)
  clear h2
  cases b
  all_goals
    go_wp2_with fail
    exact bodyPost_ret (v := noGone 3) (by simp [results, Tryz.results23, go_sem, noGone, Ent.val, entV, ent0, hrs]) rfl ⟨rfl, (((((hB.setCell (Nat.le_refl _) _).setCell (Nat.le_refl _) _).setCell (Nat.le_refl _) _).setCell (Nat.le_refl _) _).setCell (Nat.le_refl _) _)⟩
set_option maxHeartbeats 1000000 in
theorem implGone_ok {w : World} {n c : Nat} {A : Option Addr} {s : Nat → ByteArray} (k : Nat) (hs : Sl w w.heap.size A n (fun i => .string (s i))) (hsz : ∀ i, i < n → (s i).size ≤ 9223372036854775807) (hn : n ≤ c) (hn2 : n ≤ 9223372036854775807) (ho : opens n s) (hk : k < entsN n) (hde : (entK n (s 0).size (joinU (s 0).size s) k).de = true) :
    Calls Tryz.prog 23 #[.slice A n c, .int .i64 k] w fun r w' => ∃ p g cc, r = .returned (.tuple #[.pointer (some ⟨p, 0, none⟩), (entK n (s 0).size (joinU (s 0).size s) k).val, .int .i64 0]) ∧ ChW w' p g n (s 0).size (entsN n) (dirN n (s 0).size) (dataN n (s 0).size) (n * (s 0).size) cc (joinU (s 0).size s) ∧ n * (s 0).size ≤ cc ∧ Below w.heap.size w w' ∧ w.heap.size ≤ p ∧ w.heap.size ≤ g := by
  have hs1 : Sl (w.alloc (.cells #[.string ⟨#[]⟩, .int .i64 0, .int .i64 0, .bool false, .bool false] 34)) (w.alloc (.cells #[.string ⟨#[]⟩, .int .i64 0, .int .i64 0, .bool false, .bool false] 34)).heap.size A n (fun i => .string (s i)) := (hs.alloc (Nat.le_refl _) _).more (by simp)
  have HB0 := Lib.hid ((Below.refl w.heap.size w).alloc (Nat.le_refl _) (.cells #[.string ⟨#[]⟩, .int .i64 0, .int .i64 0, .bool false, .bool false] 34))
  have HR0 := Lib.hid (Rw.new w 34 #[.string ⟨#[]⟩, .int .i64 0, .int .i64 0, .bool false, .bool false])
  have HSZ := Lib.hid (show (w.alloc (.cells #[.string ⟨#[]⟩, .int .i64 0, .int .i64 0, .bool false, .bool false] 34)).heap.size = w.heap.size + 1 by simp)
  have HO := Lib.hid (implOpen hs1 hsz hn hn2)
  have HL := Lib.hid ho
  obtain ⟨f1, f2, f3, f4, f5, f6⟩ := walk_fit ho.1
  obtain ⟨z, hz⟩ : ∃ z, (s 0).size = z := ⟨_, rfl⟩
  obtain ⟨E, hE⟩ : ∃ E, entsN n = E := ⟨_, rfl⟩
  obtain ⟨U, hU⟩ : ∃ U, joinU z s = U := ⟨_, rfl⟩
  rw [hz, hE] at f6
  rw [hz] at f2 f3 f5
  rw [hE] at f4
  rw [hE] at hk
  have HZ := Lib.hid hz
  have HEE := Lib.hid hE
  have HUU := Lib.hid hU
  have F6 := Lib.hid f6
  rw [hz, hU] at hde
  rw [hz, hU, hE]
  obtain ⟨e, he⟩ : ∃ e, entK n z U k = e := ⟨_, rfl⟩
  rw [he] at hde ⊢
  obtain ⟨nm, f, l, us, de⟩ := e
  dsimp only at hde
  subst hde
  have HEK := Lib.hid (show entryOf (fun i => U (dirN n z * z + k * 12 + i)) = ⟨nm, f, l, us, true⟩ from he)
  have HW : Hid (∀ W : World, Calls Tryz.prog 41 #[.int .i64 k, .int .i64 0, .int .i64 ((E : Int) - 1)] W fun e w' => e = .returned (.bool true) ∧ w' = W) := Lib.hid (fun W => (within_any _ _ _ _).mono fun e w' h => ⟨by rw [h.1]; congr 2; simp; omega, h.2.symm⟩)
  have e1 : IntKind.i64.wrap ((E : Int) - 1) = (E : Int) - 1 := by rw [IntKind.wrap_i64]; omega
  clear ho hs hs1 hsz hz hE hU he f6
  go_enter Tryz.func23, Tryz.ntmps23
  go_upto_region 7 with (first
    | (go_at_call 32; refine HO.out.mono ?_; rintro r w1 ⟨h1, _⟩; obtain ⟨p, rfl, ow⟩ := h1 HL.out; rw [HZ.out] at ow; obtain ⟨g, cc, hc, hcap, hb1, hp, hg⟩ := ow; rw [HUU.out, HEE.out] at hc; have c2 := hc.c2; have r1 := HR0.out.below hb1 HR0.out.lt; have k0 := r1.cell 0; have fk0 := r1.frozen 0; have k1 := r1.cell 1; have fk1 := r1.frozen 1; have k2 := r1.cell 2; have fk2 := r1.frozen 2; have k3 := r1.cell 3; have fk3 := r1.frozen 3; have k4 := r1.cell 4; have fk4 := r1.frozen 4)
    | (go_at_call 41; refine (HW.out _).mono ?_; rintro e w' ⟨rfl, rfl⟩)
    | (go_at_call 24; refine (implEntry_any k _ hc rfl (F6.out k hk) (by omega) hcap (by omega)).mono ?_; intro e2 w2 h2; obtain ⟨rfl, hb2⟩ := entOut_de h2 HEK.out))
  have r2a := (r1.below hb2 r1.lt).alloc (.cells #[.string nm, .int .i64 f, .int .i64 l, .bool us, .bool true] 34)
  have rE := Rw.new w2 34 #[.string nm, .int .i64 f, .int .i64 l, .bool us, .bool true]
  have m0 := r2a.cell 0
  have fm0 := r2a.frozen 0
  have m1 := r2a.cell 1
  have fm1 := r2a.frozen 1
  have m2 := r2a.cell 2
  have fm2 := r2a.frozen 2
  have m3 := r2a.cell 3
  have fm3 := r2a.frozen 3
  have m4 := r2a.cell 4
  have fm4 := r2a.frozen 4
  have q0 := rE.cell 0; have q1 := rE.cell 1; have q2 := rE.cell 2; have q3 := rE.cell 3; have q4 := rE.cell 4
  have hrs := rowset5 r2a (.string nm) (.int .i64 f) (.int .i64 l) (.bool us) (.bool true)
  have hal0 := (Below.refl w2.heap.size w2).alloc (Nat.le_refl _) (.cells #[.string nm, .int .i64 f, .int .i64 l, .bool us, .bool true] 34)
  have hC3 := (hc.below hb2).below hal0
  have hB := ((HB0.out.trans (hb1.mono HB0.out.size)).trans (hb2.mono (Nat.le_trans HB0.out.size hb1.size))).alloc (Nat.le_trans HB0.out.size (Nat.le_trans hb1.size hb2.size)) (.cells #[.string nm, .int .i64 f, .int .i64 l, .bool us, .bool true] 34)
  have hp0 : p ≠ w.heap.size := by have := HSZ.out; omega
  have hg0 : g ≠ w.heap.size := by have := HSZ.out; omega
  clear h2
  go_wp2_with fail
  go_region
  go_wp2_with fail
  exact bodyPost_ret (v := .tuple #[.pointer (some ⟨p, 0, none⟩), entV nm f l us true, .int .i64 0]) (by simp [results, Tryz.results23, go_sem, entV, hrs]) rfl ⟨p, g, cc, rfl, (((((chw_far2 (chw_far2 (chw_far2 (chw_far2 (chw_far2 hC3 hp0 hg0 _ _) hp0 hg0 _ _) hp0 hg0 _ _) hp0 hg0 _ _) hp0 hg0 _ _))))).drew, hcap, (((((hB.setCell (Nat.le_refl _) _).setCell (Nat.le_refl _) _).setCell (Nat.le_refl _) _).setCell (Nat.le_refl _) _).setCell (Nat.le_refl _) _).drew, by have := HSZ.out; omega, by have := HSZ.out; omega⟩
theorem implGone_bad {w : World} {n c : Nat} {A : Option Addr} {s : Nat → ByteArray} (k : Int) (hs : Sl w w.heap.size A n (fun i => .string (s i))) (hsz : ∀ i, i < n → (s i).size ≤ 9223372036854775807) (hn : n ≤ c) (hn2 : n ≤ 9223372036854775807) (hc : goneCode n s k ≠ 0) :
    Calls Tryz.prog 23 #[.slice A n c, .int .i64 k] w fun r w' => r = .returned (noGone (goneCode n s k)) ∧ Below w.heap.size w w' := by
  open Classical in
  unfold goneCode at hc ⊢
  by_cases ho : opens n s
  · rw [if_pos ho] at hc ⊢
    by_cases hk : 0 ≤ k ∧ k < (entsN n : Int)
    · rw [if_pos hk] at hc ⊢
      obtain ⟨K, rfl⟩ := Int.eq_ofNat_of_zero_le hk.1
      rw [Int.toNat_natCast] at hc ⊢
      by_cases hd : (entK n (s 0).size (joinU (s 0).size s) K).de = true
      · rw [if_pos hd] at hc; exact absurd rfl hc
      · rw [if_neg hd]
        exact implGone_none K hs hsz hn hn2 ho (by omega) (by simpa using hd)
    · rw [if_neg hk]
      exact implGone_range k hs hsz hn hn2 ho hk
  · rw [if_neg ho]
    exact implGone_shut k hs hsz hn hn2 ho
theorem specGone_shut {w : World} {n c : Nat} {A : Option Addr} {s : Nat → ByteArray} (k : Int) (hs : Sl w w.heap.size A n (fun i => .string (s i))) (hsz : ∀ i, i < n → (s i).size ≤ 9223372036854775807) (hn : n ≤ c) (hn2 : n ≤ 9223372036854775807) (ho : ¬ opens n s) :
    Calls Tryz.prog 17 #[.slice A n c, .int .i64 k] w fun r w' => r = .returned (noGone (openCode n s)) ∧ Below w.heap.size w w' := by
  have hs1 : Sl (w.alloc (.cells #[.string ⟨#[]⟩, .int .i64 0, .int .i64 0, .bool false, .bool false] 34)) (w.alloc (.cells #[.string ⟨#[]⟩, .int .i64 0, .int .i64 0, .bool false, .bool false] 34)).heap.size A n (fun i => .string (s i)) := (hs.alloc (Nat.le_refl _) _).more (by simp)
  have HB0 := Lib.hid ((Below.refl w.heap.size w).alloc (Nat.le_refl _) (.cells #[.string ⟨#[]⟩, .int .i64 0, .int .i64 0, .bool false, .bool false] 34))
  have HR0 := Lib.hid (Rw.new w 34 #[.string ⟨#[]⟩, .int .i64 0, .int .i64 0, .bool false, .bool false])
  have HSZ := Lib.hid (show (w.alloc (.cells #[.string ⟨#[]⟩, .int .i64 0, .int .i64 0, .bool false, .bool false] 34)).heap.size = w.heap.size + 1 by simp)
  have HO := Lib.hid (specOpen hs1 hsz hn hn2)
  have HL := Lib.hid ho
  have hne := openCode_ne n s
  obtain ⟨code, hcode⟩ : ∃ code, openCode n s = code := ⟨_, rfl⟩
  rw [hcode] at hne ⊢
  have HCD := Lib.hid hcode
  clear ho hs hs1 hsz hcode
  rcases hne with rfl | rfl
  all_goals
    go_enter Tryz.func17, Tryz.ntmps17
    go_wp2_with (go_at_call 30; refine HO.out.mono ?_; rintro r w1 ⟨_, h1⟩; have h2 := h1 HL.out; rw [HCD.out] at h2; obtain ⟨rfl, hb1⟩ := h2; have r1 := HR0.out.below hb1 HR0.out.lt; have k0 := r1.cell 0; have fk0 := r1.frozen 0; have k1 := r1.cell 1; have fk1 := r1.frozen 1; have k2 := r1.cell 2; have fk2 := r1.frozen 2; have k3 := r1.cell 3; have fk3 := r1.frozen 3; have k4 := r1.cell 4; have fk4 := r1.frozen 4)
    have hrs := rowset5 r1 (.string ⟨#[]⟩) (.int .i64 0) (.int .i64 0) (.bool false) (.bool false)
    first
    | exact bodyPost_ret (v := noGone 1) (by simp [results, Tryz.results17, go_sem, noGone, Ent.val, entV, ent0, hrs]) rfl ⟨rfl, ((((((HB0.out.trans (hb1.mono HB0.out.size)).setCell (Nat.le_refl _) _).setCell (Nat.le_refl _) _).setCell (Nat.le_refl _) _).setCell (Nat.le_refl _) _).setCell (Nat.le_refl _) _)⟩
    | exact bodyPost_ret (v := noGone 7) (by simp [results, Tryz.results17, go_sem, noGone, Ent.val, entV, ent0, hrs]) rfl ⟨rfl, ((((((HB0.out.trans (hb1.mono HB0.out.size)).setCell (Nat.le_refl _) _).setCell (Nat.le_refl _) _).setCell (Nat.le_refl _) _).setCell (Nat.le_refl _) _).setCell (Nat.le_refl _) _)⟩
theorem specGone_range {w : World} {n c : Nat} {A : Option Addr} {s : Nat → ByteArray} (k : Int) (hs : Sl w w.heap.size A n (fun i => .string (s i))) (hsz : ∀ i, i < n → (s i).size ≤ 9223372036854775807) (hn : n ≤ c) (hn2 : n ≤ 9223372036854775807) (ho : opens n s) (hk : ¬ (0 ≤ k ∧ k < (entsN n : Int))) :
    Calls Tryz.prog 17 #[.slice A n c, .int .i64 k] w fun r w' => r = .returned (noGone 2) ∧ Below w.heap.size w w' := by
  have hs1 : Sl (w.alloc (.cells #[.string ⟨#[]⟩, .int .i64 0, .int .i64 0, .bool false, .bool false] 34)) (w.alloc (.cells #[.string ⟨#[]⟩, .int .i64 0, .int .i64 0, .bool false, .bool false] 34)).heap.size A n (fun i => .string (s i)) := (hs.alloc (Nat.le_refl _) _).more (by simp)
  have HB0 := Lib.hid ((Below.refl w.heap.size w).alloc (Nat.le_refl _) (.cells #[.string ⟨#[]⟩, .int .i64 0, .int .i64 0, .bool false, .bool false] 34))
  have HR0 := Lib.hid (Rw.new w 34 #[.string ⟨#[]⟩, .int .i64 0, .int .i64 0, .bool false, .bool false])
  have HSZ := Lib.hid (show (w.alloc (.cells #[.string ⟨#[]⟩, .int .i64 0, .int .i64 0, .bool false, .bool false] 34)).heap.size = w.heap.size + 1 by simp)
  have HO := Lib.hid (specOpen hs1 hsz hn hn2)
  have HL := Lib.hid ho
  obtain ⟨f1, f2, f3, f4, f5, f6⟩ := walk_fit ho.1
  obtain ⟨z, hz⟩ : ∃ z, (s 0).size = z := ⟨_, rfl⟩
  obtain ⟨E, hE⟩ : ∃ E, entsN n = E := ⟨_, rfl⟩
  obtain ⟨U, hU⟩ : ∃ U, joinU z s = U := ⟨_, rfl⟩
  rw [hz, hE] at f6
  rw [hz] at f2 f3 f5
  rw [hE] at f4
  rw [hE] at hk
  have HZ := Lib.hid hz
  have HEE := Lib.hid hE
  have HUU := Lib.hid hU
  have F6 := Lib.hid f6
  have HW : Hid (∀ W : World, Calls Tryz.prog 36 #[.int .i64 k, .int .i64 0, .int .i64 ((E : Int) - 1)] W fun e w' => e = .returned (.bool false) ∧ w' = W) := Lib.hid (fun W => (l00In_any _ _ _ _).mono fun e w' h => ⟨by rw [h.1]; congr 2; simp; omega, h.2.symm⟩)
  have e1 : IntKind.i64.wrap ((E : Int) - 1) = (E : Int) - 1 := by rw [IntKind.wrap_i64]; omega
  clear ho hs hs1 hsz hz hE hU hk f6
  go_enter Tryz.func17, Tryz.ntmps17
  go_wp2_with (first
    | (go_at_call 30; refine HO.out.mono ?_; rintro r w1 ⟨h1, _⟩; obtain ⟨p, rfl, ow⟩ := h1 HL.out; rw [HZ.out] at ow; obtain ⟨g, cc, hc, hcap, hb1, hp, hg⟩ := ow; rw [HUU.out, HEE.out] at hc; have c2 := hc.c2; have r1 := HR0.out.below hb1 HR0.out.lt; have k0 := r1.cell 0; have fk0 := r1.frozen 0; have k1 := r1.cell 1; have fk1 := r1.frozen 1; have k2 := r1.cell 2; have fk2 := r1.frozen 2; have k3 := r1.cell 3; have fk3 := r1.frozen 3; have k4 := r1.cell 4; have fk4 := r1.frozen 4)
    | (go_at_call 36; refine (HW.out _).mono ?_; rintro e w' ⟨rfl, rfl⟩))
  have hrs := rowset5 r1 (.string ⟨#[]⟩) (.int .i64 0) (.int .i64 0) (.bool false) (.bool false)
  exact bodyPost_ret (v := noGone 2) (by simp [results, Tryz.results17, go_sem, noGone, Ent.val, entV, ent0, hrs]) rfl ⟨rfl, ((((((HB0.out.trans (hb1.mono HB0.out.size)).setCell (Nat.le_refl _) _).setCell (Nat.le_refl _) _).setCell (Nat.le_refl _) _).setCell (Nat.le_refl _) _).setCell (Nat.le_refl _) _)⟩
set_option maxHeartbeats 1000000 in
theorem specGone_none {w : World} {n c : Nat} {A : Option Addr} {s : Nat → ByteArray} (k : Nat) (hs : Sl w w.heap.size A n (fun i => .string (s i))) (hsz : ∀ i, i < n → (s i).size ≤ 9223372036854775807) (hn : n ≤ c) (hn2 : n ≤ 9223372036854775807) (ho : opens n s) (hk : k < entsN n) (hde : (entK n (s 0).size (joinU (s 0).size s) k).de = false) :
    Calls Tryz.prog 17 #[.slice A n c, .int .i64 k] w fun r w' => r = .returned (noGone 3) ∧ Below w.heap.size w w' := by
  have hs1 : Sl (w.alloc (.cells #[.string ⟨#[]⟩, .int .i64 0, .int .i64 0, .bool false, .bool false] 34)) (w.alloc (.cells #[.string ⟨#[]⟩, .int .i64 0, .int .i64 0, .bool false, .bool false] 34)).heap.size A n (fun i => .string (s i)) := (hs.alloc (Nat.le_refl _) _).more (by simp)
  have HB0 := Lib.hid ((Below.refl w.heap.size w).alloc (Nat.le_refl _) (.cells #[.string ⟨#[]⟩, .int .i64 0, .int .i64 0, .bool false, .bool false] 34))
  have HR0 := Lib.hid (Rw.new w 34 #[.string ⟨#[]⟩, .int .i64 0, .int .i64 0, .bool false, .bool false])
  have HSZ := Lib.hid (show (w.alloc (.cells #[.string ⟨#[]⟩, .int .i64 0, .int .i64 0, .bool false, .bool false] 34)).heap.size = w.heap.size + 1 by simp)
  have HO := Lib.hid (specOpen hs1 hsz hn hn2)
  have HL := Lib.hid ho
  obtain ⟨f1, f2, f3, f4, f5, f6⟩ := walk_fit ho.1
  obtain ⟨z, hz⟩ : ∃ z, (s 0).size = z := ⟨_, rfl⟩
  obtain ⟨E, hE⟩ : ∃ E, entsN n = E := ⟨_, rfl⟩
  obtain ⟨U, hU⟩ : ∃ U, joinU z s = U := ⟨_, rfl⟩
  rw [hz, hE] at f6
  rw [hz] at f2 f3 f5
  rw [hE] at f4
  rw [hE] at hk
  have HZ := Lib.hid hz
  have HEE := Lib.hid hE
  have HUU := Lib.hid hU
  have F6 := Lib.hid f6
  rw [hz, hU] at hde
  have HDE := Lib.hid hde
  have HW : Hid (∀ W : World, Calls Tryz.prog 36 #[.int .i64 k, .int .i64 0, .int .i64 ((E : Int) - 1)] W fun e w' => e = .returned (.bool true) ∧ w' = W) := Lib.hid (fun W => (l00In_any _ _ _ _).mono fun e w' h => ⟨by rw [h.1]; congr 2; simp; omega, h.2.symm⟩)
  have e1 : IntKind.i64.wrap ((E : Int) - 1) = (E : Int) - 1 := by rw [IntKind.wrap_i64]; omega
  clear ho hs hs1 hsz hz hE hU hde f6
  go_enter Tryz.func17, Tryz.ntmps17
  go_upto_region 7 with (first
    | (go_at_call 30; refine HO.out.mono ?_; rintro r w1 ⟨h1, _⟩; obtain ⟨p, rfl, ow⟩ := h1 HL.out; rw [HZ.out] at ow; obtain ⟨g, cc, hc, hcap, hb1, hp, hg⟩ := ow; rw [HUU.out, HEE.out] at hc; have c2 := hc.c2; have r1 := HR0.out.below hb1 HR0.out.lt; have k0 := r1.cell 0; have fk0 := r1.frozen 0; have k1 := r1.cell 1; have fk1 := r1.frozen 1; have k2 := r1.cell 2; have fk2 := r1.frozen 2; have k3 := r1.cell 3; have fk3 := r1.frozen 3; have k4 := r1.cell 4; have fk4 := r1.frozen 4)
    | (go_at_call 36; refine (HW.out _).mono ?_; rintro e w' ⟨rfl, rfl⟩)
    | (go_at_call 37; refine (specEntry_any k _ hc rfl (F6.out k hk) (by omega) hcap (by omega)).mono ?_; intro e2 w2 h2; obtain ⟨b, nm, f, l, us, rfl, hb2⟩ := entOut_not h2 HDE.out))
  have r2a := (r1.below hb2 r1.lt).alloc (.cells #[.string nm, .int .i64 f, .int .i64 l, .bool us, .bool false] 34)
  have rE := Rw.new w2 34 #[.string nm, .int .i64 f, .int .i64 l, .bool us, .bool false]
  have m0 := r2a.cell 0
  have fm0 := r2a.frozen 0
  have m1 := r2a.cell 1
  have fm1 := r2a.frozen 1
  have m2 := r2a.cell 2
  have fm2 := r2a.frozen 2
  have m3 := r2a.cell 3
  have fm3 := r2a.frozen 3
  have m4 := r2a.cell 4
  have fm4 := r2a.frozen 4
  have q4 := rE.cell 4
  have hrs := rowset5 r2a (.string ⟨#[]⟩) (.int .i64 0) (.int .i64 0) (.bool false) (.bool false)
  have hB := ((HB0.out.trans (hb1.mono HB0.out.size)).trans (hb2.mono (Nat.le_trans HB0.out.size hb1.size))).alloc (Nat.le_trans HB0.out.size (Nat.le_trans hb1.size hb2.size)) (.cells #[.string nm, .int .i64 f, .int .i64 l, .bool us, .bool false] 34)
  clear h2
  cases b
  all_goals
    go_wp2_with fail
    exact bodyPost_ret (v := noGone 3) (by simp [results, Tryz.results17, go_sem, noGone, Ent.val, entV, ent0, hrs]) rfl ⟨rfl, (((((hB.setCell (Nat.le_refl _) _).setCell (Nat.le_refl _) _).setCell (Nat.le_refl _) _).setCell (Nat.le_refl _) _).setCell (Nat.le_refl _) _)⟩
set_option maxHeartbeats 1000000 in
theorem specGone_ok {w : World} {n c : Nat} {A : Option Addr} {s : Nat → ByteArray} (k : Nat) (hs : Sl w w.heap.size A n (fun i => .string (s i))) (hsz : ∀ i, i < n → (s i).size ≤ 9223372036854775807) (hn : n ≤ c) (hn2 : n ≤ 9223372036854775807) (ho : opens n s) (hk : k < entsN n) (hde : (entK n (s 0).size (joinU (s 0).size s) k).de = true) :
    Calls Tryz.prog 17 #[.slice A n c, .int .i64 k] w fun r w' => ∃ p g cc, r = .returned (.tuple #[.pointer (some ⟨p, 0, none⟩), (entK n (s 0).size (joinU (s 0).size s) k).val, .int .i64 0]) ∧ ChW w' p g n (s 0).size (entsN n) (dirN n (s 0).size) (dataN n (s 0).size) (n * (s 0).size) cc (joinU (s 0).size s) ∧ n * (s 0).size ≤ cc ∧ Below w.heap.size w w' ∧ w.heap.size ≤ p ∧ w.heap.size ≤ g := by
  have hs1 : Sl (w.alloc (.cells #[.string ⟨#[]⟩, .int .i64 0, .int .i64 0, .bool false, .bool false] 34)) (w.alloc (.cells #[.string ⟨#[]⟩, .int .i64 0, .int .i64 0, .bool false, .bool false] 34)).heap.size A n (fun i => .string (s i)) := (hs.alloc (Nat.le_refl _) _).more (by simp)
  have HB0 := Lib.hid ((Below.refl w.heap.size w).alloc (Nat.le_refl _) (.cells #[.string ⟨#[]⟩, .int .i64 0, .int .i64 0, .bool false, .bool false] 34))
  have HR0 := Lib.hid (Rw.new w 34 #[.string ⟨#[]⟩, .int .i64 0, .int .i64 0, .bool false, .bool false])
  have HSZ := Lib.hid (show (w.alloc (.cells #[.string ⟨#[]⟩, .int .i64 0, .int .i64 0, .bool false, .bool false] 34)).heap.size = w.heap.size + 1 by simp)
  have HO := Lib.hid (specOpen hs1 hsz hn hn2)
  have HL := Lib.hid ho
  obtain ⟨f1, f2, f3, f4, f5, f6⟩ := walk_fit ho.1
  obtain ⟨z, hz⟩ : ∃ z, (s 0).size = z := ⟨_, rfl⟩
  obtain ⟨E, hE⟩ : ∃ E, entsN n = E := ⟨_, rfl⟩
  obtain ⟨U, hU⟩ : ∃ U, joinU z s = U := ⟨_, rfl⟩
  rw [hz, hE] at f6
  rw [hz] at f2 f3 f5
  rw [hE] at f4
  rw [hE] at hk
  have HZ := Lib.hid hz
  have HEE := Lib.hid hE
  have HUU := Lib.hid hU
  have F6 := Lib.hid f6
  rw [hz, hU] at hde
  rw [hz, hU, hE]
  obtain ⟨e, he⟩ : ∃ e, entK n z U k = e := ⟨_, rfl⟩
  rw [he] at hde ⊢
  obtain ⟨nm, f, l, us, de⟩ := e
  dsimp only at hde
  subst hde
  have HEK := Lib.hid (show entryOf (fun i => U (dirN n z * z + k * 12 + i)) = ⟨nm, f, l, us, true⟩ from he)
  have HW : Hid (∀ W : World, Calls Tryz.prog 36 #[.int .i64 k, .int .i64 0, .int .i64 ((E : Int) - 1)] W fun e w' => e = .returned (.bool true) ∧ w' = W) := Lib.hid (fun W => (l00In_any _ _ _ _).mono fun e w' h => ⟨by rw [h.1]; congr 2; simp; omega, h.2.symm⟩)
  have e1 : IntKind.i64.wrap ((E : Int) - 1) = (E : Int) - 1 := by rw [IntKind.wrap_i64]; omega
  clear ho hs hs1 hsz hz hE hU he f6
  go_enter Tryz.func17, Tryz.ntmps17
  go_upto_region 7 with (first
    | (go_at_call 30; refine HO.out.mono ?_; rintro r w1 ⟨h1, _⟩; obtain ⟨p, rfl, ow⟩ := h1 HL.out; rw [HZ.out] at ow; obtain ⟨g, cc, hc, hcap, hb1, hp, hg⟩ := ow; rw [HUU.out, HEE.out] at hc; have c2 := hc.c2; have r1 := HR0.out.below hb1 HR0.out.lt; have k0 := r1.cell 0; have fk0 := r1.frozen 0; have k1 := r1.cell 1; have fk1 := r1.frozen 1; have k2 := r1.cell 2; have fk2 := r1.frozen 2; have k3 := r1.cell 3; have fk3 := r1.frozen 3; have k4 := r1.cell 4; have fk4 := r1.frozen 4)
    | (go_at_call 36; refine (HW.out _).mono ?_; rintro e w' ⟨rfl, rfl⟩)
    | (go_at_call 37; refine (specEntry_any k _ hc rfl (F6.out k hk) (by omega) hcap (by omega)).mono ?_; intro e2 w2 h2; obtain ⟨rfl, hb2⟩ := entOut_de h2 HEK.out))
  have r2a := (r1.below hb2 r1.lt).alloc (.cells #[.string nm, .int .i64 f, .int .i64 l, .bool us, .bool true] 34)
  have rE := Rw.new w2 34 #[.string nm, .int .i64 f, .int .i64 l, .bool us, .bool true]
  have m0 := r2a.cell 0
  have fm0 := r2a.frozen 0
  have m1 := r2a.cell 1
  have fm1 := r2a.frozen 1
  have m2 := r2a.cell 2
  have fm2 := r2a.frozen 2
  have m3 := r2a.cell 3
  have fm3 := r2a.frozen 3
  have m4 := r2a.cell 4
  have fm4 := r2a.frozen 4
  have q0 := rE.cell 0; have q1 := rE.cell 1; have q2 := rE.cell 2; have q3 := rE.cell 3; have q4 := rE.cell 4
  have hrs := rowset5 r2a (.string nm) (.int .i64 f) (.int .i64 l) (.bool us) (.bool true)
  have hal0 := (Below.refl w2.heap.size w2).alloc (Nat.le_refl _) (.cells #[.string nm, .int .i64 f, .int .i64 l, .bool us, .bool true] 34)
  have hC3 := (hc.below hb2).below hal0
  have hB := ((HB0.out.trans (hb1.mono HB0.out.size)).trans (hb2.mono (Nat.le_trans HB0.out.size hb1.size))).alloc (Nat.le_trans HB0.out.size (Nat.le_trans hb1.size hb2.size)) (.cells #[.string nm, .int .i64 f, .int .i64 l, .bool us, .bool true] 34)
  have hp0 : p ≠ w.heap.size := by have := HSZ.out; omega
  have hg0 : g ≠ w.heap.size := by have := HSZ.out; omega
  clear h2
  go_wp2_with fail
  go_region
  go_wp2_with fail
  exact bodyPost_ret (v := .tuple #[.pointer (some ⟨p, 0, none⟩), entV nm f l us true, .int .i64 0]) (by simp [results, Tryz.results17, go_sem, entV, hrs]) rfl ⟨p, g, cc, rfl, (((((chw_far2 (chw_far2 (chw_far2 (chw_far2 (chw_far2 hC3 hp0 hg0 _ _) hp0 hg0 _ _) hp0 hg0 _ _) hp0 hg0 _ _) hp0 hg0 _ _))))).drew, hcap, (((((hB.setCell (Nat.le_refl _) _).setCell (Nat.le_refl _) _).setCell (Nat.le_refl _) _).setCell (Nat.le_refl _) _).setCell (Nat.le_refl _) _).drew, by have := HSZ.out; omega, by have := HSZ.out; omega⟩
theorem specGone_bad {w : World} {n c : Nat} {A : Option Addr} {s : Nat → ByteArray} (k : Int) (hs : Sl w w.heap.size A n (fun i => .string (s i))) (hsz : ∀ i, i < n → (s i).size ≤ 9223372036854775807) (hn : n ≤ c) (hn2 : n ≤ 9223372036854775807) (hc : goneCode n s k ≠ 0) :
    Calls Tryz.prog 17 #[.slice A n c, .int .i64 k] w fun r w' => r = .returned (noGone (goneCode n s k)) ∧ Below w.heap.size w w' := by
  open Classical in
  unfold goneCode at hc ⊢
  by_cases ho : opens n s
  · rw [if_pos ho] at hc ⊢
    by_cases hk : 0 ≤ k ∧ k < (entsN n : Int)
    · rw [if_pos hk] at hc ⊢
      obtain ⟨K, rfl⟩ := Int.eq_ofNat_of_zero_le hk.1
      rw [Int.toNat_natCast] at hc ⊢
      by_cases hd : (entK n (s 0).size (joinU (s 0).size s) K).de = true
      · rw [if_pos hd] at hc; exact absurd rfl hc
      · rw [if_neg hd]
        exact specGone_none K hs hsz hn hn2 ho (by omega) (by simpa using hd)
    · rw [if_neg hk]
      exact specGone_range k hs hsz hn hn2 ho hk
  · rw [if_neg ho]
    exact specGone_shut k hs hsz hn hn2 ho
theorem goneCode_zero {n : Nat} {s : Nat → ByteArray} {k : Int} (h : goneCode n s k = 0) : opens n s ∧ ∃ K : Nat, k = (K : Int) ∧ K < entsN n ∧ (entK n (s 0).size (joinU (s 0).size s) K).de = true := by
  unfold goneCode at h
  split at h
  · rename_i h1
    split at h
    · rename_i h2
      split at h
      · rename_i h3
        exact ⟨h1, k.toNat, by omega, by omega, h3⟩
      · omega
    · omega
  · have := openCode_ne n s; omega
end Go.Proofs.YtgmmigbaaigldaaGreatDoor
