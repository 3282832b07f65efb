/-
  The program's SetEntry returns what the reference's returns, for all arguments. Conditions: none.
-/
import Derived.Test.YtbdabciaaaeofaaRows
import Derived.Test.YtbdabciaaaeofaaEntryLaw
namespace Go.Proofs.Ytbdabciaaaeofaa.fnExactSetEntry
open Go Go.ChangeShapes Go.WideShapes Go.ChangeAt Go.RowKit lib
set_option linter.unusedVariables false
set_option maxRecDepth 100000
theorem own_drew {w : World} {B e k n : Nat} {v : Value} {xs : List Value} (h : w.ownsRow B e k v n xs) : w.drew.ownsRow B e k v n xs :=
  h.kept (only_drew (only_refl w none)) (by cases v.ownBlock <;> simp)
theorem own_apart2 {w w1 : World} {B B' e e' k k' n n' : Nat} {v v' : Value} {xs xs' : List Value} (h : w.ownsRow B e k v n xs) (h' : w1.ownsRow B' e' k' v' n' xs') (hB : w.heap.size ≤ B') : v'.ownBlock = none ∨ v'.ownBlock ≠ v.ownBlock := by
  rcases own_apart h h' hB with h1 | h1
  · cases hv : v'.ownBlock with
    | none => exact .inl rfl
    | some g => exact .inr (by rw [h1]; simp)
  · exact .inr (fun he => h1 he.symm)
set_option maxHeartbeats 2000000 in
theorem law (A : Option Addr) (n c m : Nat) (x : Int) (nm : ByteArray) (f1 f2 : Int) (us de : Bool) (code : Int) (s : Nat → ByteArray) (f : Nat → ByteArray) (w : World) (hm : m ≤ 1048576) (ha : Sl w w.heap.size A n (fun i => .string (s i))) (hok : n + tot s n + nm.size ≤ 1048576)
    (hs : ∀ (w : World) (A : Option Addr), Sl w w.heap.size A n (fun i => .string (s i)) → Calls Try.prog 22 #[.slice A n n, .int .i64 x, entV nm f1 f2 us de] w fun e w' => ∃ A c, e = .returned (.tuple #[.slice A m c, .int .i64 code]) ∧ w'.ownsRow w.heap.size 9 1 (.slice A m c) m ((List.range m).map fun (i : Nat) => Value.string (f i)) ∧ Below w.heap.size w w')
    (hi : ∀ (w : World) (A : Option Addr), Sl w w.heap.size A n (fun i => .string (s i)) → Calls Try.prog 24 #[.slice A n n, .int .i64 x, entV nm f1 f2 us de] w fun e w' => ∃ A c, e = .returned (.tuple #[.slice A m c, .int .i64 code]) ∧ w'.ownsRow w.heap.size 9 1 (.slice A m c) m ((List.range m).map fun (i : Nat) => Value.string (f i)) ∧ Below w.heap.size w w') :
    Calls Try.prog 6 #[.slice A n c, .int .i64 x, entV nm f1 f2 us de] w fun e w' => e = .returned (.bool true) ∧ Below w.heap.size w w' := by
  have HS := Lib.hid hs
  have HI := Lib.hid hi
  have HA := Lib.hid ha
  clear hs hi
  have hn : n ≤ 1048576 := by omega
  have B0 : Below w.heap.size w (w.alloc (.cells #[.string nm, .int .i64 f1, .int .i64 f2, .bool us, .bool de] 38)) := (Below.refl _ _).alloc (Nat.le_refl _) _
  have RB := Lib.hid (Rw.new w 38 #[.string nm, .int .i64 f1, .int .i64 f2, .bool us, .bool de])
  unfold entV at *
  go_enter Try.func6, Try.ntmps6
  go_wp2_with fail
  refine (szStringS_ok A n c 1048576 s _ (by omega) ((HA.out.below B0).more B0.size) (by omega)).mono ?_
  rintro e w0 ⟨rfl, rfl⟩
  clear ha
  go_wp2_with fail
  refine (szEnt_any nm f1 f2 us de (1048576 - (n : Int) - (tot s n : Nat)) (by omega) (by omega) (by omega) _).mono ?_
  rw [if_pos (by omega)]
  rintro e w1 ⟨rfl, hb⟩
  have B1 := B0.trans (hb.mono B0.size)
  have RB := Lib.hid (RB.out.below hb RB.out.lt)
  clear hb B0
  go_upto_region 8 with fail
  go_cut [8, 9] (fun sa sb wx => ∃ A0 c0, sa = .slice A0 m c0 ∧ sb = .int .i64 code ∧ wx.ownsRow w.heap.size 9 1 (.slice A0 m c0) m ((List.range m).map fun (i : Nat) => Value.string (f i)) ∧ Below w.heap.size w wx ∧ Rw wx w.heap.size 38 #[.string nm, .int .i64 f1, .int .i64 f2, .bool us, .bool de] ∧ True)
  case first =>
    have rb := RB.out
    have r0 := rb.cell 0
    have r1 := rb.cell 1
    have r2 := rb.cell 2
    have r3 := rb.cell 3
    have r4 := rb.cell 4
    go_region_law (first
      | (go_simp; go_at_call 14; first
        | (refine (toStringS_any A n c s _ hn ((HA.out.below BE).more BE.size)).mono ?_; rintro e2 w2 ⟨rfl, o, hb⟩; have OZ := Lib.hid o; have BZ := BE.trans (hb.mono BE.size); have RZ := RE.below hb RE.lt)
        | (refine (toStringS_any A n c s _ hn ((HA.out.below B1.drew).more B1.drew.size)).mono ?_; rintro e2 w2 ⟨rfl, o, hb⟩; have OT := Lib.hid o; have BT := B1.drew.trans (hb.mono B1.drew.size); have RT := rb.drew.below hb rb.drew.lt; have u0 := RT.cell 0; have u1 := RT.cell 1; have u2 := RT.cell 2; have u3 := RT.cell 3; have u4 := RT.cell 4))
      | (go_simp; go_at_call 23; first
        | (refine (toEnt_any nm f1 f2 us de _).mono ?_; rintro e2 w2 ⟨rfl, hb⟩; have OZ := Lib.hid (own_below OT.out hb); have BZ := BT.trans (hb.mono BT.size); have RZ := RT.below hb RT.lt)
        | (refine (toEnt_any nm f1 f2 us de _).mono ?_; rintro e2 w2 ⟨rfl, hb⟩; have BE := B1.drew.trans (hb.mono B1.drew.size); have RE := rb.drew.below hb rb.drew.lt))
      | (go_simp; go_at_call 22; refine (HS.out _ _ (own_slR OZ.out)).mono ?_; rintro e2 w3 ⟨A0, c0, rfl, o, hb⟩; have OS := own_base o BZ.size; have BS := BZ.trans (hb.mono BZ.size); have RS := RZ.below hb RZ.lt))
    all_goals
      go_wp2_with fail
      go_meet
      exact ⟨A0, c0, rfl, rfl, OS, BS, RS, trivial⟩
  case rest =>
  obtain ⟨A0', c0', rfl, rfl, o, B2, rb, _⟩ := hcut
  have OW := Lib.hid o
  have RB := Lib.hid rb
  clear o rb B1
  have RBX := Lib.hid RB.out.lt
  go_wp2_with fail
  refine (toStringS_any A n c s _ hn ((HA.out.below B2).more B2.size)).mono ?_
  rintro e w3 ⟨rfl, o, hb⟩
  have RB := Lib.hid (RB.out.below hb RB.out.lt)
  have B3 := B2.trans (hb.mono B2.size)
  have apWX := Lib.hid (own_apart OW.out o (Nat.le_refl _))
  have OX := Lib.hid o
  have hs23 := hb.size
  have zX := B2.size
  have OW := Lib.hid (own_below OW.out hb)
  clear o hb
  have rb := RB.out
  have r0 := rb.cell 0
  have r1 := rb.cell 1
  have r2 := rb.cell 2
  have r3 := rb.cell 3
  have r4 := rb.cell 4
  go_wp2_with fail
  clear r0 r1 r2 r3 r4 rb
  refine (toEnt_any nm f1 f2 us de _).mono ?_
  rintro e w31 ⟨rfl, hb⟩
  have RB := Lib.hid (RB.out.below hb RB.out.lt)
  have B3 := B3.trans (hb.mono B3.size)
  have hs23 := Nat.le_trans hs23 hb.size
  have OW := Lib.hid (own_below OW.out hb)
  have OX := Lib.hid (own_below OX.out hb)
  clear hb
  go_wp2_with fail
  refine (HI.out _ _ (own_slR OX.out)).mono ?_
  rintro e w4 ⟨A1, c1, rfl, o, hb⟩
  have RB := Lib.hid (RB.out.below hb RB.out.lt)
  have B4 := B3.trans (hb.mono B3.size)
  have apXG := Lib.hid (own_apart2 OX.out o (Nat.le_refl _))
  have apWG := Lib.hid (own_apart OW.out o (Nat.le_refl _))
  have OG := Lib.hid o
  have zG := B3.size
  have zG' := B3.size
  have OW := Lib.hid (own_below OW.out hb)
  have OX := Lib.hid (own_below OX.out hb)
  clear o hb
  go_wp2_with fail
  refine (eqStringS_same _ _ m _ _ f f _ hm (own_slR OG.out) (own_slR OW.out) (fun _ _ => rfl)).mono ?_
  rintro e w5 ⟨rfl, hb⟩
  have RB := Lib.hid (RB.out.below hb RB.out.lt)
  have B5 := B4.trans (hb.mono B4.size)
  have OW := Lib.hid (own_below OW.out hb)
  have OX := Lib.hid (own_below OX.out hb)
  have OG := Lib.hid (own_below OG.out hb)
  clear hb
  go_wp2_with fail
  refine (toStringS_any A n c s _ hn ((HA.out.below B5).more B5.size)).mono ?_
  rintro e w6 ⟨rfl, o, hb⟩
  have RB := Lib.hid (RB.out.below hb RB.out.lt)
  have B6 := B5.trans (hb.mono B5.size)
  have OY := Lib.hid o
  have OW := Lib.hid (own_below OW.out hb)
  have OX := Lib.hid (own_below OX.out hb)
  have OG := Lib.hid (own_below OG.out hb)
  clear o hb
  go_wp2_with fail
  refine (eqStringS_same _ _ n _ _ s s _ hn (own_slR OX.out) (own_slR OY.out) (fun _ _ => rfl)).mono ?_
  rintro e w7 ⟨rfl, hb⟩
  have RB := Lib.hid (RB.out.below hb RB.out.lt)
  have B7 := B6.trans (hb.mono B6.size)
  have OW := Lib.hid (own_below OW.out hb)
  have OX := Lib.hid (own_below OX.out hb)
  have OG := Lib.hid (own_below OG.out hb)
  clear hb OY
  go_wp2_with fail
  refine (markStringS_any _ n _ _ _ _ _ hn (by omega) (by omega) OX.out).mono ?_
  rintro e w8 ⟨rfl, _, hg⟩
  have B8 := B7.trans (below_grown hg (fun k hk => by have := (OX.out.lt k hk).1; omega) B7.size)
  have RB := Lib.hid (show Rw w8 w.heap.size 38 #[.string nm, .int .i64 f1, .int .i64 f2, .bool us, .bool de] from (hg.block w.heap.size RB.out.lt (fun e => by have := (OX.out.lt w.heap.size e.symm).1; have := RBX.out; omega)).trans RB.out)
  have OW := Lib.hid (OW.out.kept hg apWX.out)
  have OG := Lib.hid (OG.out.kept hg apXG.out)
  clear hg OX
  go_wp2_with fail
  refine (eqStringS_same _ _ m _ _ f f _ hm (own_slR OG.out) (own_slR OW.out) (fun _ _ => rfl)).mono ?_
  rintro e w9 ⟨rfl, hb⟩
  have RB := Lib.hid (RB.out.below hb RB.out.lt)
  have B9 := B8.trans (hb.mono B8.size)
  have OW := Lib.hid (own_below OW.out hb)
  have OG := Lib.hid (own_below OG.out hb)
  clear hb
  go_wp2_with fail
  refine (markStringS_any _ m _ _ _ _ _ hm (by omega) (by omega) OG.out).mono ?_
  rintro e w10 ⟨rfl, o, hg⟩
  have B10 := B9.trans (below_grown hg (fun k hk => by have := (OG.out.lt k hk).1; omega) B9.size)
  have RB := Lib.hid (show Rw w10 w.heap.size 38 #[.string nm, .int .i64 f1, .int .i64 f2, .bool us, .bool de] from (hg.block w.heap.size RB.out.lt (fun e => by have := (OG.out.lt w.heap.size e.symm).1; have := RBX.out; omega)).trans RB.out)
  have OW := Lib.hid (OW.out.kept hg apWG.out)
  have OG := Lib.hid o
  clear o hg
  go_wp2_with fail
  refine (heldStringS_any _ m _ _ _ hm (by omega) (by omega) (own_slR OG.out)).mono ?_
  rintro e w11 ⟨rfl, hb⟩
  have RB := Lib.hid (RB.out.below hb RB.out.lt)
  have B11 := B10.trans (hb.mono B10.size)
  have OW := Lib.hid (own_below OW.out hb)
  have OG := Lib.hid (own_below OG.out hb)
  clear hb
  have OWb := Lib.hid (own_base OW.out (Nat.le_refl _))
  have OGb := Lib.hid (own_base OG.out (show w.heap.size ≤ _ from zG'))
  clear OW OG
  go_upto_region 27 with fail
  go_cut [16, 17] (fun sa sb wx => ∃ A0 c0, sa = .slice A0 m c0 ∧ sb = .int .i64 code ∧ wx.ownsRow w.heap.size 9 1 (.slice A0 m c0) m ((List.range m).map fun (i : Nat) => Value.string (f i)) ∧ Below w.heap.size w wx ∧ Rw wx w.heap.size 38 #[.string nm, .int .i64 f1, .int .i64 f2, .bool us, .bool de] ∧ wx.ownsRow w.heap.size 9 1 (.slice A0' m c0') m ((List.range m).map fun (i : Nat) => Value.string (f i)) ∧ wx.ownsRow w.heap.size 9 1 (.slice A1 m c1) m ((List.range m).map fun (i : Nat) => Value.string (mt ((1 : Int) + (i : Int)).toNat)))
  case first =>
    have rb := RB.out
    have r0 := rb.cell 0
    have r1 := rb.cell 1
    have r2 := rb.cell 2
    have r3 := rb.cell 3
    have r4 := rb.cell 4
    go_region_law (first
      | (go_simp; go_at_call 14; first
        | (refine (toStringS_any A n c s _ hn ((HA.out.below BE).more BE.size)).mono ?_; rintro e2 w2 ⟨rfl, o, hb⟩; have OZ := Lib.hid o; have BZ := BE.trans (hb.mono BE.size); have RZ := RE.below hb RE.lt; have WZ := own_below WE hb; have GZ := own_below GE hb)
        | (refine (toStringS_any A n c s _ hn ((HA.out.below B11.drew).more B11.drew.size)).mono ?_; rintro e2 w2 ⟨rfl, o, hb⟩; have OT := Lib.hid o; have BT := B11.drew.trans (hb.mono B11.drew.size); have RT := rb.drew.below hb rb.drew.lt; have u0 := RT.cell 0; have u1 := RT.cell 1; have u2 := RT.cell 2; have u3 := RT.cell 3; have u4 := RT.cell 4; have WT := own_below (own_drew OWb.out) hb; have GT := own_below (own_drew OGb.out) hb))
      | (go_simp; go_at_call 23; first
        | (refine (toEnt_any nm f1 f2 us de _).mono ?_; rintro e2 w2 ⟨rfl, hb⟩; have OZ := Lib.hid (own_below OT.out hb); have BZ := BT.trans (hb.mono BT.size); have RZ := RT.below hb RT.lt; have WZ := own_below WT hb; have GZ := own_below GT hb)
        | (refine (toEnt_any nm f1 f2 us de _).mono ?_; rintro e2 w2 ⟨rfl, hb⟩; have BE := B11.drew.trans (hb.mono B11.drew.size); have RE := rb.drew.below hb rb.drew.lt; have WE := own_below (own_drew OWb.out) hb; have GE := own_below (own_drew OGb.out) hb))
      | (go_simp; go_at_call 24; refine (HI.out _ _ (own_slR OZ.out)).mono ?_; rintro e2 w3 ⟨A0, c0, rfl, o, hb⟩; have OS := own_base o BZ.size; have BS := BZ.trans (hb.mono BZ.size); have RS := RZ.below hb RZ.lt; have WS := own_below WZ hb; have GS := own_below GZ hb))
    all_goals
      go_wp2_with fail
      go_meet
      exact ⟨A0, c0, rfl, rfl, OS, BS, RS, WS, GS⟩
  case rest =>
  obtain ⟨A2, c2, rfl, rfl, o, B13, rb, hW, hG⟩ := hcut
  have OH := Lib.hid o
  have OW := Lib.hid hW
  have OG := Lib.hid hG
  have RB := Lib.hid rb
  clear o rb hW hG
  go_wp2_with fail
  refine (eqStringS_same _ _ m _ _ f f _ hm (own_slR OH.out) (own_slR OW.out) (fun _ _ => rfl)).mono ?_
  rintro e w14 ⟨rfl, hb⟩
  have RB := Lib.hid (RB.out.below hb RB.out.lt)
  have B14 := B13.trans (hb.mono B13.size)
  have OG := Lib.hid (own_below OG.out hb)
  clear hb OH OW
  go_wp2_with fail
  refine (heldStringS_any _ m _ _ _ hm (by omega) (by omega) (own_slR OG.out)).mono ?_
  rintro e w15 ⟨rfl, hb⟩
  have RB := Lib.hid (RB.out.below hb RB.out.lt)
  have B15 := B14.trans (hb.mono B14.size)
  clear hb
  go_wp2
  go_ret
  exact ⟨rfl, B15⟩
theorem law_over (A : Option Addr) (n c : Nat) (x : Int) (nm : ByteArray) (f1 f2 : Int) (us de : Bool) (s : Nat → ByteArray) (w : World) (hn : n ≤ 9223372036854775807) (hnm : nm.size ≤ 9223372036854775807) (hs : Sl w w.heap.size A n (fun i => .string (s i))) (hm : ∀ i, i < n → (s i).size ≤ 9223372036854775807) (h : 1048576 < n + tot s n + nm.size) :
    Calls Try.prog 6 #[.slice A n c, .int .i64 x, entV nm f1 f2 us de] w fun e w' => e = .returned (.bool true) ∧ Below w.heap.size w w' := by
  have B0 : Below w.heap.size w (w.alloc (.cells #[.string nm, .int .i64 f1, .int .i64 f2, .bool us, .bool de] 38)) := (Below.refl _ _).alloc (Nat.le_refl _) _
  by_cases h1 : n + tot s n ≤ 1048576
  · unfold entV
    go_enter Try.func6, Try.ntmps6
    go_wp2_with fail
    refine (szStringS_ok A n c 1048576 s _ (by omega) ((hs.below B0).more B0.size) (by omega)).mono ?_
    rintro e w1 ⟨rfl, rfl⟩
    go_wp2_with fail
    refine (szEnt_any nm f1 f2 us de (1048576 - (n : Int) - (tot s n : Nat)) hnm (by omega) (by omega) _).mono ?_
    rw [if_neg (by omega)]
    rintro e w2 ⟨rfl, hb⟩
    go_wp2
    go_ret
    exact ⟨rfl, B0.trans (hb.mono B0.size)⟩
  · unfold entV
    go_enter Try.func6, Try.ntmps6
    go_wp2_with fail
    refine (szStringS_over A n c 1048576 s _ (by omega) hn ((hs.below B0).more B0.size) hm (by omega) (by omega)).mono ?_
    rintro e w1 ⟨rfl, rfl⟩
    go_wp2
    go_ret
    exact ⟨rfl, B0⟩
theorem walk (H : Type) (enc : TypeId × Value → H) (W : World) (base : Nat) (args : Array Value) (ds : List (DataW H)) (p : List MemPlace)
    (hval : ∀ (j : Nat) t v, Try.f6.params[j]? = some t → args[j]? = some v → Value.okWide Try.prog W .any base t v)
    (hA : DataW.TrodAll enc Try.prog W 0 (fun _ => true) true Try.f6.params.toList args.toList ds p) :
    Calls Try.prog 6 args W fun e W' => e = .returned (.bool true) ∧ Below W.heap.size W W' := by
  rw [Try.params6] at hA hval
  obtain ⟨v0, vs0, d0, ds0, p0, q0, hargs, rfl, rfl, h0, r0⟩ := trodAll_cons hA
  obtain ⟨v1, vs1, d1, ds1, p1, q1, rfl, rfl, rfl, h1, r1⟩ := trodAll_cons r0
  obtain ⟨v2, vs2, d2, ds2, p2, q2, rfl, rfl, rfl, h2, r2⟩ := trodAll_cons r1
  obtain ⟨rfl, rfl, rfl⟩ := trodAll_nil r2
  obtain rfl : args = #[v0, v1, v2] := by cases args; simp_all
  obtain ⟨a1, rfl, rfl, rfl, w1⟩ := open_int Try.underlying2 (hval 1 2 v1 rfl rfl) h1
  obtain ⟨A, n, c, s, rfl, g1, g2, hs, hm⟩ := open_sl_str Try.underlying22 Try.underlying9 (by kernel_rfl) (hval 0 22 v0 rfl rfl) h0
  obtain ⟨nm, f1, f2, us, de, rfl, hnm⟩ := open_ent Try.underlying38 (by kernel_rfl) (by kernel_rfl) Try.underlying9 Try.underlying2 Try.underlying2 Try.underlying4 Try.underlying4 (hval 2 38 v2 rfl rfl) h2
  by_cases hov : n + tot s n + nm.size ≤ 1048576
  · have hn : n ≤ 1048576 := by omega
    by_cases ho : opens n s
    · by_cases hv : validE nm f1 f2 us de
      · by_cases hk : 0 ≤ a1 ∧ a1 < entsN n
        · obtain ⟨k, rfl⟩ := Int.eq_ofNat_of_zero_le hk.1
          obtain ⟨y1, rfl⟩ := Int.eq_ofNat_of_zero_le (validE_facts hv).2.1.1
          obtain ⟨y2, rfl⟩ := Int.eq_ofNat_of_zero_le (validE_facts hv).2.2.1
          exact law A n c n k nm y1 y2 us de 0 s (fun i => blkOf (s 0).size (setE n (s 0).size (joinU (s 0).size s) k nm y1 y2 us de) i) W hn hs hov
            (fun w A hs => specSetEntryTop_ok k nm y1 y2 us de hnm hs hm (Nat.le_refl _) (by omega) ho (by omega) hv)
            (fun w A hs => implSetEntry_ok k nm y1 y2 us de hs hm (Nat.le_refl _) (by omega) ho (by omega) hv)
        · exact law A n c 0 a1 nm f1 f2 us de 2 s (fun _ => .empty) W (by omega) hs hov
            (fun w A hs => (specSetEntryTop_range a1 nm f1 f2 us de hnm hs hm (Nat.le_refl _) (by omega) ho hv hk).mono fun r w' ⟨h1, h2⟩ => ⟨none, 0, h1, World.ownsRow_nil _ _ _ _, h2⟩)
            (fun w A hs => (implSetEntry_range a1 nm f1 f2 us de hnm hs hm (Nat.le_refl _) (by omega) ho hv hk).mono fun r w' ⟨h1, h2⟩ => ⟨none, 0, h1, World.ownsRow_nil _ _ _ _, h2⟩)
      · exact law A n c 0 a1 nm f1 f2 us de 1 s (fun _ => .empty) W (by omega) hs hov
          (fun w A hs => (specSetEntryTop_bad a1 nm f1 f2 us de hnm hs hm (Nat.le_refl _) (by omega) ho hv).mono fun r w' ⟨h1, h2⟩ => ⟨none, 0, h1, World.ownsRow_nil _ _ _ _, h2⟩)
          (fun w A hs => (implSetEntry_bad a1 nm f1 f2 us de hnm hs hm (Nat.le_refl _) (by omega) ho hv).mono fun r w' ⟨h1, h2⟩ => ⟨none, 0, h1, World.ownsRow_nil _ _ _ _, h2⟩)
    · exact law A n c 0 a1 nm f1 f2 us de (openCode n s) s (fun _ => .empty) W (by omega) hs hov
        (fun w A hs => (specSetEntryTop_shut a1 nm f1 f2 us de hnm hs hm (Nat.le_refl _) (by omega) ho).mono fun r w' ⟨h1, h2⟩ => ⟨none, 0, h1, World.ownsRow_nil _ _ _ _, h2⟩)
        (fun w A hs => (implSetEntry_shut a1 nm f1 f2 us de hs hm (Nat.le_refl _) (by omega) ho).mono fun r w' ⟨h1, h2⟩ => ⟨none, 0, h1, World.ownsRow_nil _ _ _ _, h2⟩)
  · exact law_over A n c a1 nm f1 f2 us de s W (by omega) hnm hs hm (by omega)
theorem own : ownKnob Try.prog.godebug = none := by kernel_rfl
theorem laidOut : laidOutB Try.prog = true := by kernel_rfl
theorem lifted (os : Os) (started : os.Started) (H : Type) (enc : TypeId × Value → H) :
    ReturnsInHanded {} Try.checked os 6 .any (Rows.fnExactSetEntrySpec.pre6 enc Try.prog Try.f6 Rows.fnExactSetEntryRow.domain false) (Rows.fnExactSetEntrySpec.post enc Try.prog Try.f6 false true false false) := by
  refine returnsInHanded_of_change (C := Try.checked) own started (by kernel_rfl) Try.func6
    (ChangeSpec.witness6 (enc := enc) (C := Try.checked) false ⟨#[], #[.slice none 0 0, .int .i64 0, .agg #[.string .empty, .int .i64 0, .int .i64 0, .bool false, .bool false]], []⟩ 8 (by kernel_rfl) (by kernel_rfl) (by kernel_rfl) (by kernel_rfl)) ?_
  intro W base args ds gs before hval hW _ _
  have hW' := hW
  obtain ⟨p, q, hA, hV, rfl, hfz, hnd⟩ := hW
  refine (walk H enc W base args ds p hval hA).mono fun e W' ⟨he, hb⟩ => ?_
  subst he
  exact ⟨_, rfl, law_post laidOut (by kernel_rfl) rfl rfl Try.underlying4 (fun xs hx => by
      match xs, hx with
      | [x0, x1, x2], _ => exact ⟨rfl, rfl, rfl⟩) hW' hb⟩
theorem over : Rows.fnExactSetEntryRow.holds Try.pinned (OpenSpec.ofChange Rows.fnExactSetEntrySpec) :=
  OpenClaim.holds_of_wide 6 Try.f6 rfl rfl rfl rfl rfl rfl rfl ⟨rfl, rfl, rfl, rfl, rfl⟩ rfl rfl rfl rfl rfl (by kernel_rfl) Try.func6 (by kernel_rfl)
    (of_decide_eq_true (by kernel_rfl)) (by unfold Func.isWrapper; first | (rw [if_pos (by decide +kernel)]; kernel_rfl) | (rw [if_neg (by decide +kernel)]; exact ⟨rfl, rfl⟩))
    (fun os started H enc _ => lifted os started H enc)
/-- the given statement -/
theorem proved : Rows.FnExactSetEntrySaid := over
end Go.Proofs.Ytbdabciaaaeofaa.fnExactSetEntry
