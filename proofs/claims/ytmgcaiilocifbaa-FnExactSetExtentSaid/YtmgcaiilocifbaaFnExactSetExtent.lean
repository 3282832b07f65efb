/-
  The program's SetExtent returns what the reference's returns, for all arguments. Conditions: none.
-/
import Derived.Test.YtmgcaiilocifbaaRows
import Derived.Test.YtmgcaiilocifbaaXlwT
namespace Go.Proofs.Ytmgcaiilocifbaa.fnExactSetExtent
open Go Go.ChangeShapes Go.WideShapes Go.ChangeAt Go.RowKit lib
set_option linter.unusedVariables false
set_option linter.unusedSimpArgs false
set_option maxRecDepth 100000
theorem own_drew {w : World} {B e k n : Nat} {v : Value} {xs : List Value} (h : w.ownsRow B e k v n xs) : w.drew.ownsRow B e k v n xs :=
  own_below h (Below.refl _ _).drew
theorem own_apart2 {w w1 : World} {B B' e e' k k' n n' : Nat} {v v' : Value} {xs xs' : List Value} (h : w.ownsRow B e k v n xs) (h' : w1.ownsRow B' e' k' v' n' xs') (hB : w.heap.size ≤ B') : v'.ownBlock = none ∨ v'.ownBlock ≠ v.ownBlock := by
  rcases own_apart h h' hB with h1 | h1
  · cases hv : v'.ownBlock with
    | none => exact .inl rfl
    | some g => exact .inr (by rw [h1]; simp)
  · exact .inr (fun he => h1 he.symm)
theorem rw_grownX {w w' : World} {g e : Nat} {cs : Array Value} {row : Option Nat} (h : Rw w g e cs) (hb : w.grownBy w' row) (hg : row = none ∨ row ≠ some g) : Rw w' g e cs :=
  (hb.block g h.lt (fun e => by rcases hg with h | h <;> simp_all)).trans h
def SOwn (w w' : World) (r : Ending) (m : Nat) (code : Int) (f : Nat → ByteArray) : Prop := ∃ A c, r = .returned (.tuple #[.slice A m c, .int .i64 code]) ∧ w'.ownsRow w.heap.size 9 1 (.slice A m c) m ((List.range m).map fun (i : Nat) => Value.string (f i)) ∧ Below w.heap.size w w'
set_option maxHeartbeats 8000000 in
theorem law (A Ae : Option Addr) (n c ce m : Nat) (x : Int) (e : XE) (code : Int) (s : Nat → ByteArray) (f : Nat → ByteArray) (w : World) (hm : m ≤ 1048576) (ha : Sl w w.heap.size A n (fun i => .string (s i))) (hae : Sl w w.heap.size Ae e.bl.length (fun i => .int .i64 (e.bl.getD i 0))) (hok : n + tot s n + e.nm.size + e.bl.length ≤ 1048576)
    (hs : ∀ (w : World) (A Ae : Option Addr) (ce : Nat), Sl w w.heap.size A n (fun i => .string (s i)) → Sl w w.heap.size Ae e.bl.length (fun i => .int .i64 (e.bl.getD i 0)) → Calls Try.prog 6 #[.slice A n n, .int .i64 x, e.val Ae ce] w fun r w' => SOwn w w' r m code f)
    (hi : ∀ (w : World) (A Ae : Option Addr) (ce : Nat), Sl w w.heap.size A n (fun i => .string (s i)) → Sl w w.heap.size Ae e.bl.length (fun i => .int .i64 (e.bl.getD i 0)) → Calls Try.prog 9 #[.slice A n n, .int .i64 x, e.val Ae ce] w fun r w' => SOwn w w' r m code f) :
    Calls Try.prog 3 #[.slice A n c, .int .i64 x, e.val Ae ce] w fun r w' => r = .returned (.bool true) ∧ Below w.heap.size w w' := by
  have hn : n ≤ 1048576 := by omega
  have hml : e.bl.length ≤ 1048576 := by omega
  have B0 : Below w.heap.size w (w.alloc (.cells #[.int .i64 e.st, .string e.nm, .int .i64 e.no, .int .i64 e.tl, .slice Ae e.bl.length ce] 25)) := (Below.refl _ _).alloc (Nat.le_refl _) _
  have RB := Lib.hid (Rw.new w 25 #[.int .i64 e.st, .string e.nm, .int .i64 e.no, .int .i64 e.tl, .slice Ae e.bl.length ce])
  have HTS := Lib.hid (fun (W : World) (hW : Below w.heap.size w W) => toStringS_any A n c s W hn ((ha.below hW).more hW.size))
  have HTE := Lib.hid (fun (W : World) (hW : Below w.heap.size w W) => toXE_any e Ae ce W hml ((hae.below hW).more hW.size))
  have HSZ := Lib.hid (szStringS_ok A n c 1048576 s (w.alloc (.cells #[.int .i64 e.st, .string e.nm, .int .i64 e.no, .int .i64 e.tl, .slice Ae e.bl.length ce] 25)) (by omega) ((ha.below B0).more B0.size) (by omega))
  have HSX := Lib.hid (szXE_any e Ae ce (1048576 - (n : Int) - (tot s n : Nat)) (w.alloc (.cells #[.int .i64 e.st, .string e.nm, .int .i64 e.no, .int .i64 e.tl, .slice Ae e.bl.length ce] 25)) (by omega) (by omega) (by omega) (by omega) _ (if_pos (by omega)).symm)
  have HEQ := Lib.hid (fun (W : World) (A B : Option Addr) (c d : Nat) (h1 : Sl W W.heap.size A e.bl.length (fun i => .int .i64 (e.bl.getD i 0))) (h2 : Sl W W.heap.size B e.bl.length (fun i => .int .i64 (e.bl.getD i 0))) => eqXE_same e A B c d W hml h1 h2)
  have HMK := Lib.hid (fun (W : World) (A : Option Addr) (c B : Nat) (k0 : Int) (xs : List Value) (h0 : 1 ≤ k0) (h1 : k0 ≤ 1048577) (hown : W.ownsRow B 2 1 (.slice A e.bl.length c) e.bl.length xs) => markXE_any e A c B k0 xs W hml h0 h1 hown)
  have HS := Lib.hid hs
  have HI := Lib.hid hi
  have HPOS := Lib.hid (show (0 : Int) ≤ 1048576 - (n : Int) - (tot s n : Nat) - (e.nm.size : Nat) - (e.bl.length : Nat) by omega)
  unfold XE.val at HTE HSX HEQ HMK HS HI ⊢
  have hpos := HPOS.out
  obtain ⟨m4, hm4⟩ : ∃ m4, m4 = e.bl.length := ⟨_, rfl⟩
  have HM4 := Lib.hid hm4
  rw [← hm4] at hml
  clear hs hi ha hae hm4
  go_enter Try.func3, Try.ntmps3
  go_wp2_with fail
  refine HSZ.out.mono ?_
  rintro r_ w0 ⟨rfl, rfl⟩
  go_wp2_with fail
  refine HSX.out.mono ?_
  rintro r_ w1 ⟨rfl, hb⟩
  have BB := Lib.hid (B0.trans (hb.mono B0.size))
  have RB := Lib.hid (RB.out.below hb RB.out.lt)
  have RBX := Lib.hid RB.out.lt
  have hzz := BB.out.size
  clear hb B0 HSZ HSX
  go_upto_region 8 with fail
  go_cut [8, 9] (fun sa sb wx => ∃ A0 c0, sa = .slice A0 m c0 ∧ sb = .int .i64 code ∧ wx.ownsRow w1.heap.size 9 1 (.slice A0 m c0) m ((List.range m).map fun (i : Nat) => Value.string (f i)) ∧ Below w.heap.size w wx ∧ Rw wx w.heap.size 25 #[.int .i64 e.st, .string e.nm, .int .i64 e.no, .int .i64 e.tl, .slice Ae e.bl.length ce])
  case first =>
    have rb := RB.out
    have r0 := rb.cell 0
    have r1 := rb.cell 1
    have r2 := rb.cell 2
    have r3 := rb.cell 3
    have r4 := rb.cell 4
    go_region_law (first
      | (go_simp; go_at_call 7; first
        | ((with_reducible refine (HTS.out _ BE).mono ?_); rintro e2 w2 ⟨rfl, o, hb⟩; have SZ := own_slR o; have EZ := own_slR (own_below oE hb); have BZ := BE.trans (hb.mono BE.size); have BZ1 := BE1.trans (hb.mono BE1.size); have RZ := RE.below hb RE.lt; have YZ := True.intro)
        | ((with_reducible refine (HTS.out _ BB.out.drew).mono ?_); rintro e2 w2 ⟨rfl, o, hb⟩; have oT := o; have BT := BB.out.drew.trans (hb.mono BB.out.drew.size); have BT1 := (Below.refl w1.heap.size w1).drew.trans (hb.mono (Nat.le_refl _)); have RT := rb.drew.below hb rb.drew.lt; have u0 := RT.cell 0; have u1 := RT.cell 1; have u2 := RT.cell 2; have u3 := RT.cell 3; have u4 := RT.cell 4; have YT := True.intro))
      | (go_simp; go_at_call 8; first
        | ((with_reducible refine (HTE.out _ BT).mono ?_); rintro e2 w2 ⟨A5, c5, rfl, oe, hb⟩; have SZ := own_slR (own_below oT hb); have EZ := own_slR oe; have BZ := BT.trans (hb.mono BT.size); have BZ1 := BT1.trans (hb.mono BT1.size); have RZ := RT.below hb RT.lt; have YZ := True.intro)
        | ((with_reducible refine (HTE.out _ BB.out.drew).mono ?_); rintro e2 w2 ⟨A5, c5, rfl, oe, hb⟩; have oE := oe; have BE := BB.out.drew.trans (hb.mono BB.out.drew.size); have BE1 := (Below.refl w1.heap.size w1).drew.trans (hb.mono (Nat.le_refl _)); have RE := rb.drew.below hb rb.drew.lt; have YE := True.intro))
      | (go_simp; go_at_call 6; refine (HS.out _ _ _ _ SZ EZ).mono ?_; rintro e2 w3 ⟨A0, c0, rfl, o, hb⟩; have OS := own_base o BZ1.size; have BS := BZ.trans (hb.mono BZ.size); have RS := RZ.below hb RZ.lt; have YS := True.intro))
    all_goals
      go_wp2_with fail
      go_meet
      exact ⟨A0, c0, rfl, rfl, OS, BS, RS⟩
  case rest =>
  obtain ⟨A0p, c0p, rfl, rfl, o, hB, rb⟩ := hcut
  have OW := Lib.hid o
  have RB := Lib.hid rb
  have BB := Lib.hid hB
  have hzz := BB.out.size
  clear o rb hB
  go_wp2_with fail
  refine (HTS.out _ BB.out).mono ?_
  rintro r_ w_ ⟨rfl, o, hb⟩
  have apOWOX := Lib.hid (own_apart OW.out o (Nat.le_refl _))
  have OX := Lib.hid o
  clear o
  have OW := Lib.hid (own_below OW.out hb)
  have RB := Lib.hid (RB.out.below hb RB.out.lt)
  have BB := Lib.hid (BB.out.trans (hb.mono BB.out.size))
  have hzz := BB.out.size
  clear hb
  have rb := RB.out
  have r0 := rb.cell 0
  have r1 := rb.cell 1
  have r2 := rb.cell 2
  have r3 := rb.cell 3
  have r4 := rb.cell 4
  go_wp2_with fail
  clear r0 r1 r2 r3 r4 rb
  refine (HTE.out _ BB.out).mono ?_
  rintro r_ w_ ⟨A5, c5, rfl, o, hb⟩
  have apOWOE := Lib.hid (own_apart OW.out o (Nat.le_refl _))
  have apOXOE := Lib.hid (own_apart OX.out o (Nat.le_refl _))
  have apOEOX := Lib.hid (own_apart2 OX.out o (Nat.le_refl _))
  have OE := Lib.hid o
  clear o
  have OW := Lib.hid (own_below OW.out hb)
  have RB := Lib.hid (RB.out.below hb RB.out.lt)
  have OX := Lib.hid (own_below OX.out hb)
  have BB := Lib.hid (BB.out.trans (hb.mono BB.out.size))
  have hzz := BB.out.size
  clear hb
  go_upto_region 11 with fail
  obtain ⟨q, hq⟩ : ∃ q, w_.heap.size = q := ⟨_, rfl⟩
  have RX := Lib.hid (Rw.new w_ 31 #[.int .i64 e.st, .string e.nm, .int .i64 e.no, .int .i64 e.tl, .slice A5 e.bl.length c5])
  have hb := (Below.refl w_.heap.size w_).alloc (Nat.le_refl _) (.cells #[.int .i64 e.st, .string e.nm, .int .i64 e.no, .int .i64 e.tl, .slice A5 e.bl.length c5] 31)
  have OW := Lib.hid (own_below OW.out hb)
  have RB := Lib.hid (RB.out.below hb RB.out.lt)
  have OX := Lib.hid (own_below OX.out hb)
  have OE := Lib.hid (own_below OE.out hb)
  have BB := Lib.hid (BB.out.trans (hb.mono BB.out.size))
  have hzz := BB.out.size
  clear hb
  rw [hq] at RX ⊢
  generalize w_.alloc (.cells #[.int .i64 e.st, .string e.nm, .int .i64 e.no, .int .i64 e.tl, .slice A5 e.bl.length c5] 31) = W5 at *
  clear hq
  have rx := RX.out
  have r0 := rx.cell 0
  have r1 := rx.cell 1
  have r2 := rx.cell 2
  have r3 := rx.cell 3
  have r4 := rx.cell 4
  go_wp2_with fail
  clear r0 r1 r2 r3 r4 rx
  refine (HI.out _ _ _ _ (own_slR OX.out) (own_slR OE.out)).mono ?_
  rintro r_ w_ ⟨A1, c1, rfl, o, hb⟩
  have apOWOG := Lib.hid (own_apart OW.out o (Nat.le_refl _))
  have apOGOX := Lib.hid (own_apart2 OX.out o (Nat.le_refl _))
  have apOGOE := Lib.hid (own_apart2 OE.out o (Nat.le_refl _))
  have OG := Lib.hid o
  clear o
  have OW := Lib.hid (own_below OW.out hb)
  have RB := Lib.hid (RB.out.below hb RB.out.lt)
  have OX := Lib.hid (own_below OX.out hb)
  have OE := Lib.hid (own_below OE.out hb)
  have RX := Lib.hid (RX.out.below hb RX.out.lt)
  have BB := Lib.hid (BB.out.trans (hb.mono BB.out.size))
  have hzz := BB.out.size
  clear hb
  go_wp2_with fail
  refine (eqStringS_same _ _ m _ _ f f _ hm (own_slR OG.out) (own_slR OW.out) (fun _ _ => rfl)).mono ?_
  rintro r_ w_ ⟨rfl, hb⟩
  have OW := Lib.hid (own_below OW.out hb)
  have RB := Lib.hid (RB.out.below hb RB.out.lt)
  have OX := Lib.hid (own_below OX.out hb)
  have OE := Lib.hid (own_below OE.out hb)
  have RX := Lib.hid (RX.out.below hb RX.out.lt)
  have OG := Lib.hid (own_below OG.out hb)
  have BB := Lib.hid (BB.out.trans (hb.mono BB.out.size))
  have hzz := BB.out.size
  clear hb
  go_wp2_with fail
  refine (HTS.out _ BB.out).mono ?_
  rintro r_ w_ ⟨rfl, o, hb⟩
  have OY := Lib.hid o
  clear o
  have OW := Lib.hid (own_below OW.out hb)
  have RB := Lib.hid (RB.out.below hb RB.out.lt)
  have OX := Lib.hid (own_below OX.out hb)
  have OE := Lib.hid (own_below OE.out hb)
  have RX := Lib.hid (RX.out.below hb RX.out.lt)
  have OG := Lib.hid (own_below OG.out hb)
  have BB := Lib.hid (BB.out.trans (hb.mono BB.out.size))
  have hzz := BB.out.size
  clear hb
  go_wp2_with fail
  refine (eqStringS_same _ _ n _ _ s s _ hn (own_slR OX.out) (own_slR OY.out) (fun _ _ => rfl)).mono ?_
  rintro r_ w_ ⟨rfl, hb⟩
  have OW := Lib.hid (own_below OW.out hb)
  have RB := Lib.hid (RB.out.below hb RB.out.lt)
  have OX := Lib.hid (own_below OX.out hb)
  have OE := Lib.hid (own_below OE.out hb)
  have RX := Lib.hid (RX.out.below hb RX.out.lt)
  have OG := Lib.hid (own_below OG.out hb)
  have OY := Lib.hid (own_below OY.out hb)
  have BB := Lib.hid (BB.out.trans (hb.mono BB.out.size))
  have hzz := BB.out.size
  clear hb
  clear OY
  have OWb := Lib.hid (own_base OW.out (Nat.zero_le _))
  have OGb := Lib.hid (own_base OG.out (Nat.zero_le _))
  have OXb := Lib.hid (own_base OX.out (Nat.zero_le _))
  have OEb := Lib.hid (own_base OE.out (Nat.zero_le _))
  go_upto_region 16 with fail
  go_cut [67] (fun sa wx => sa = .bool false ∧ Below w_.heap.size w_ wx)
  case first =>
    have rb := RB.out
    have rx := RX.out
    have r0 := rb.cell 0
    have r1 := rb.cell 1
    have r2 := rb.cell 2
    have r3 := rb.cell 3
    have r4 := rb.cell 4
    have x0 := rx.cell 0
    have x1 := rx.cell 1
    have x2 := rx.cell 2
    have x3 := rx.cell 3
    have x4 := rx.cell 4
    go_region_law (first
      | (go_simp; go_at_call 8; refine (HTE.out _ BB.out.drew).mono ?_; rintro e2 w2 ⟨A6, c6, rfl, oe, hb⟩; have RX2 := RX.out.drew.below hb RX.out.drew.lt; have v0 := RX2.cell 0; have v1 := RX2.cell 1; have v2 := RX2.cell 2; have v3 := RX2.cell 3; have v4 := RX2.cell 4; have B6 := (Below.refl w_.heap.size w_).drew.trans (hb.mono (Nat.le_refl _)); have S6 := own_slR oe; have T6 := own_slR (own_below (own_drew OE.out) hb))
      | (go_simp; go_at_call 11; first
        | ((with_reducible refine (HEQ.out _ _ _ _ _ T6 S6).mono ?_); rintro e2 w3 ⟨rfl, hb3⟩; have B7 := B6.trans (hb3.mono B6.size))
        | ((with_reducible refine (HEQ.out _ _ _ _ _ T6.drew S6.drew).mono ?_); rintro e2 w3 ⟨rfl, hb3⟩; have B7 := B6.drew.trans (hb3.mono B6.size))))
    all_goals
      go_wp2_with fail
      go_meet
      exact ⟨rfl, B7⟩
  case rest =>
  obtain ⟨rfl, hb⟩ := hcut
  clear OWb OGb OXb OEb
  have OW := Lib.hid (own_below OW.out hb)
  have RB := Lib.hid (RB.out.below hb RB.out.lt)
  have OX := Lib.hid (own_below OX.out hb)
  have OE := Lib.hid (own_below OE.out hb)
  have RX := Lib.hid (RX.out.below hb RX.out.lt)
  have OG := Lib.hid (own_below OG.out hb)
  have BB := Lib.hid (BB.out.trans (hb.mono BB.out.size))
  have hzz := BB.out.size
  clear hb
  go_wp2_with fail
  refine (markStringS_any _ n _ _ _ _ _ hn (by omega) (by omega) OX.out).mono ?_
  rintro r_ w_ ⟨rfl, _, hg⟩
  have BB := Lib.hid (BB.out.trans (below_grown hg (fun k hk => by have := (OX.out.lt k hk).1; omega) BB.out.size))
  have RB := Lib.hid (rw_grownX RB.out hg (own_neR OX.out RB.out (by decide)))
  have RX := Lib.hid (rw_grownX RX.out hg (own_neR OX.out RX.out (by decide)))
  have OW := Lib.hid (World.ownsRow.kept OW.out hg apOWOX.out)
  have OG := Lib.hid (World.ownsRow.kept OG.out hg apOGOX.out)
  have OE := Lib.hid (World.ownsRow.kept OE.out hg apOEOX.out)
  have hzz := BB.out.size
  clear hg
  clear OX
  have rx := RX.out
  have r0 := rx.cell 0
  have r1 := rx.cell 1
  have r2 := rx.cell 2
  have r3 := rx.cell 3
  have r4 := rx.cell 4
  go_wp2_with fail
  clear r0 r1 r2 r3 r4 rx
  refine (HMK.out _ _ _ _ (1 + (n : Int)) _ (by omega) (by omega) OE.out).mono ?_
  rintro r_ w_ ⟨rfl, hg⟩
  have BB := Lib.hid (BB.out.trans (below_grown hg (fun k hk => by have := (OE.out.lt k hk).1; omega) BB.out.size))
  have RB := Lib.hid (rw_grownX RB.out hg (own_neR OE.out RB.out (by decide)))
  have OW := Lib.hid (World.ownsRow.kept OW.out hg apOWOE.out)
  have OG := Lib.hid (World.ownsRow.kept OG.out hg apOGOE.out)
  have hzz := BB.out.size
  clear hg
  clear OE RX
  have hm4 := HM4.out
  rw [← hm4]
  clear hm4
  go_wp2_with fail
  refine (eqStringS_same _ _ m _ _ f f _ hm (own_slR OG.out) (own_slR OW.out) (fun _ _ => rfl)).mono ?_
  rintro r_ w_ ⟨rfl, hb⟩
  have OW := Lib.hid (own_below OW.out hb)
  have RB := Lib.hid (RB.out.below hb RB.out.lt)
  have OG := Lib.hid (own_below OG.out hb)
  have BB := Lib.hid (BB.out.trans (hb.mono BB.out.size))
  have hzz := BB.out.size
  clear hb
  go_wp2_with fail
  refine (markStringS_any _ m _ _ _ _ _ hm (by omega) (by omega) OG.out).mono ?_
  rintro r_ w_ ⟨rfl, o, hg⟩
  have BB := Lib.hid (BB.out.trans (below_grown hg (fun k hk => by have := (OG.out.lt k hk).1; omega) BB.out.size))
  have RB := Lib.hid (rw_grownX RB.out hg (own_neR OG.out RB.out (by decide)))
  have OW := Lib.hid (World.ownsRow.kept OW.out hg apOWOG.out)
  have hzz := BB.out.size
  clear hg
  have OG := Lib.hid o
  clear o
  go_wp2_with fail
  refine (heldStringS_any _ m _ _ _ hm (by omega) (by omega) (own_slR OG.out)).mono ?_
  rintro r_ w_ ⟨rfl, hb⟩
  have OW := Lib.hid (own_below OW.out hb)
  have RB := Lib.hid (RB.out.below hb RB.out.lt)
  have OG := Lib.hid (own_below OG.out hb)
  have BB := Lib.hid (BB.out.trans (hb.mono BB.out.size))
  have hzz := BB.out.size
  clear hb
  have OW := Lib.hid (own_base OW.out (Nat.zero_le _))
  have OG := Lib.hid (own_base OG.out (Nat.zero_le _))
  obtain ⟨wz, hwz⟩ : ∃ wz, wz = w_ := ⟨_, rfl⟩
  subst hwz
  go_upto_region 31 with fail
  go_cut [17, 18] (fun sa sb wx => ∃ A0 c0, sa = .slice A0 m c0 ∧ sb = .int .i64 code ∧ wx.ownsRow wz.heap.size 9 1 (.slice A0 m c0) m ((List.range m).map fun (i : Nat) => Value.string (f i)) ∧ Below w.heap.size w wx ∧ Rw wx w.heap.size 25 #[.int .i64 e.st, .string e.nm, .int .i64 e.no, .int .i64 e.tl, .slice Ae e.bl.length ce] ∧ wx.ownsRow 0 9 1 (.slice A0p m c0p) m ((List.range m).map fun (i : Nat) => Value.string (f i)) ∧ wx.ownsRow 0 9 1 (.slice A1 m c1) m ((List.range m).map fun (i : Nat) => Value.string (mt ((1 : Int) + (i : Int)).toNat)))
  case first =>
    have rb := RB.out
    have r0 := rb.cell 0
    have r1 := rb.cell 1
    have r2 := rb.cell 2
    have r3 := rb.cell 3
    have r4 := rb.cell 4
    go_region_law (first
      | (go_simp; go_at_call 7; first
        | ((with_reducible refine (HTS.out _ BE).mono ?_); rintro e2 w2 ⟨rfl, o, hb⟩; have SZ := own_slR o; have EZ := own_slR (own_below oE hb); have BZ := BE.trans (hb.mono BE.size); have BZ1 := BE1.trans (hb.mono BE1.size); have RZ := RE.below hb RE.lt; have OWZ := own_below OWE hb; have OGZ := own_below OGE hb; have YZ := True.intro)
        | ((with_reducible refine (HTS.out _ BB.out.drew).mono ?_); rintro e2 w2 ⟨rfl, o, hb⟩; have oT := o; have BT := BB.out.drew.trans (hb.mono BB.out.drew.size); have BT1 := (Below.refl wz.heap.size wz).drew.trans (hb.mono (Nat.le_refl _)); have RT := rb.drew.below hb rb.drew.lt; have u0 := RT.cell 0; have u1 := RT.cell 1; have u2 := RT.cell 2; have u3 := RT.cell 3; have u4 := RT.cell 4; have OWT := own_below (own_drew OW.out) hb; have OGT := own_below (own_drew OG.out) hb; have YT := True.intro))
      | (go_simp; go_at_call 8; first
        | ((with_reducible refine (HTE.out _ BT).mono ?_); rintro e2 w2 ⟨A5, c5, rfl, oe, hb⟩; have SZ := own_slR (own_below oT hb); have EZ := own_slR oe; have BZ := BT.trans (hb.mono BT.size); have BZ1 := BT1.trans (hb.mono BT1.size); have RZ := RT.below hb RT.lt; have OWZ := own_below OWT hb; have OGZ := own_below OGT hb; have YZ := True.intro)
        | ((with_reducible refine (HTE.out _ BB.out.drew).mono ?_); rintro e2 w2 ⟨A5, c5, rfl, oe, hb⟩; have oE := oe; have BE := BB.out.drew.trans (hb.mono BB.out.drew.size); have BE1 := (Below.refl wz.heap.size wz).drew.trans (hb.mono (Nat.le_refl _)); have RE := rb.drew.below hb rb.drew.lt; have OWE := own_below (own_drew OW.out) hb; have OGE := own_below (own_drew OG.out) hb; have YE := True.intro))
      | (go_simp; go_at_call 9; refine (HI.out _ _ _ _ SZ EZ).mono ?_; rintro e2 w3 ⟨A0, c0, rfl, o, hb⟩; have OS := own_base o BZ1.size; have BS := BZ.trans (hb.mono BZ.size); have RS := RZ.below hb RZ.lt; have OWS := own_below OWZ hb; have OGS := own_below OGZ hb; have YS := True.intro))
    all_goals
      go_wp2_with fail
      go_meet
      exact ⟨A0, c0, rfl, rfl, OS, BS, RS, OWS, OGS⟩
  case rest =>
  obtain ⟨A2, c2, rfl, rfl, o, hB, rb, oW, oG⟩ := hcut
  have OH := Lib.hid o
  have OW := Lib.hid oW
  have OG := Lib.hid oG
  have BB := Lib.hid hB
  have hzz := BB.out.size
  clear o rb hB oW oG RB
  go_wp2_with fail
  refine (eqStringS_same _ _ m _ _ f f _ hm (own_slR OH.out) (own_slR OW.out) (fun _ _ => rfl)).mono ?_
  rintro r_ w_ ⟨rfl, hb⟩
  have OH := Lib.hid (own_below OH.out hb)
  have OW := Lib.hid (own_below OW.out hb)
  have OG := Lib.hid (own_below OG.out hb)
  have BB := Lib.hid (BB.out.trans (hb.mono BB.out.size))
  have hzz := BB.out.size
  clear hb
  go_wp2_with fail
  refine (heldStringS_any _ m _ _ _ hm (by omega) (by omega) (own_slR OG.out)).mono ?_
  rintro r_ w_ ⟨rfl, hb⟩
  have OH := Lib.hid (own_below OH.out hb)
  have OW := Lib.hid (own_below OW.out hb)
  have OG := Lib.hid (own_below OG.out hb)
  have BB := Lib.hid (BB.out.trans (hb.mono BB.out.size))
  have hzz := BB.out.size
  clear hb
  go_wp2
  go_ret
  exact ⟨rfl, BB.out⟩
theorem law_over (A Ae : Option Addr) (n c ce : Nat) (x : Int) (e : XE) (s : Nat → ByteArray) (w : World) (hn : n ≤ 9223372036854775807) (hnm : e.nm.size ≤ 9223372036854775807) (hml : e.bl.length ≤ 9223372036854775807) (hs : Sl w w.heap.size A n (fun i => .string (s i))) (hm : ∀ i, i < n → (s i).size ≤ 9223372036854775807) (h : 1048576 < n + tot s n + e.nm.size + e.bl.length) :
    Calls Try.prog 3 #[.slice A n c, .int .i64 x, e.val Ae ce] w fun r w' => r = .returned (.bool true) ∧ Below w.heap.size w w' := by
  have B0 : Below w.heap.size w (w.alloc (.cells #[.int .i64 e.st, .string e.nm, .int .i64 e.no, .int .i64 e.tl, .slice Ae e.bl.length ce] 25)) := (Below.refl _ _).alloc (Nat.le_refl _) _
  by_cases h1 : n + tot s n ≤ 1048576
  · have HSX := Lib.hid (szXE_any e Ae ce (1048576 - (n : Int) - (tot s n : Nat)) (w.alloc (.cells #[.int .i64 e.st, .string e.nm, .int .i64 e.no, .int .i64 e.tl, .slice Ae e.bl.length ce] 25)) hnm hml (by omega) (by omega) _ (if_neg (by omega)).symm)
    unfold XE.val at HSX ⊢
    go_enter Try.func3, Try.ntmps3
    go_wp2_with fail
    refine (szStringS_ok A n c 1048576 s _ (by omega) ((hs.below B0).more B0.size) (by omega)).mono ?_
    rintro r_ w1 ⟨rfl, rfl⟩
    go_wp2_with fail
    refine HSX.out.mono ?_
    rintro r_ w2 ⟨rfl, hb⟩
    go_wp2
    go_ret
    exact ⟨rfl, B0.trans (hb.mono B0.size)⟩
  · unfold XE.val
    go_enter Try.func3, Try.ntmps3
    go_wp2_with fail
    refine (szStringS_over A n c 1048576 s _ (by omega) hn ((hs.below B0).more B0.size) hm (by omega) (by omega)).mono ?_
    rintro r_ w1 ⟨rfl, rfl⟩
    go_wp2
    go_ret
    exact ⟨rfl, B0⟩
theorem walk (H : Type) (enc : TypeId × Value → H) (W : World) (base : Nat) (args : Array Value) (ds : List (DataW H)) (p : List MemPlace)
    (hval : ∀ (j : Nat) t v, Try.f3.params[j]? = some t → args[j]? = some v → Value.okWide Try.prog W .any base t v)
    (hA : DataW.TrodAll enc Try.prog W 0 (fun _ => true) true Try.f3.params.toList args.toList ds p) :
    Calls Try.prog 3 args W fun e W' => e = .returned (.bool true) ∧ Below W.heap.size W W' := by
  rw [Try.params3] at hA hval
  obtain ⟨v0, vs0, d0, ds0, p0, q0, hargs, rfl, rfl, h0, r0⟩ := trodAll_cons hA
  obtain ⟨v1, vs1, d1, ds1, p1, q1, rfl, rfl, rfl, h1, r1⟩ := trodAll_cons r0
  obtain ⟨v2, vs2, d2, ds2, p2, q2, rfl, rfl, rfl, h2, r2⟩ := trodAll_cons r1
  obtain ⟨rfl, rfl, rfl⟩ := trodAll_nil r2
  obtain rfl : args = #[v0, v1, v2] := by cases args; simp_all
  obtain ⟨a1, rfl, rfl, rfl, w1⟩ := open_int Try.underlying2 (hval 1 2 v1 rfl rfl) h1
  obtain ⟨A, n, c, s, rfl, g1, g2, hs, hm⟩ := open_sl_str Try.underlying22 Try.underlying9 (by kernel_rfl) (hval 0 22 v0 rfl rfl) h0
  obtain ⟨e, Ae, ce, rfl, hnm, hml, hse⟩ := open_xe Try.underlying25 (by kernel_rfl) (by kernel_rfl) Try.underlying2 Try.underlying9 Try.underlying2 Try.underlying2 Try.underlying23 Try.underlying2 (by kernel_rfl) (hval 2 25 v2 rfl rfl) h2
  by_cases hov : n + tot s n + e.nm.size + e.bl.length ≤ 1048576
  · by_cases hc : setXCode n s a1 e = 0
    · obtain ⟨ho, hk, he⟩ := setX_zero hc
      obtain ⟨k, rfl⟩ := Int.eq_ofNat_of_zero_le hk.1
      exact law A Ae n c ce n k e 0 s (fun i => blkOf (s 0).size (putX (s 0).size (joinU (s 0).size s) k e) i) W (by omega) hs hse hov
        (fun w A Ae ce hs hse => specSetXTop_ok e hs hm (Nat.le_refl _) (by omega) ho he (by omega) hnm hse)
        (fun w A Ae ce hs hse => implSetX_ok e hs hm (Nat.le_refl _) (by omega) ho he (by omega) hnm hse)
    · exact law A Ae n c ce 0 a1 e (setXCode n s a1 e) s (fun _ => ByteArray.empty) W (by omega) hs hse hov
        (fun w A Ae ce hs hse => (specSetXTop_bad a1 e hs hm (Nat.le_refl _) (by omega) hc hnm (by omega) hse).mono fun r w' h => ⟨none, 0, h.1, World.ownsRow_nil _ _ _ _, h.2⟩)
        (fun w A Ae ce hs hse => (implSetX_bad a1 e hs hm (Nat.le_refl _) (by omega) hc hnm (by omega) hse).mono fun r w' h => ⟨none, 0, h.1, World.ownsRow_nil _ _ _ _, h.2⟩)
  · exact law_over A Ae n c ce a1 e s W (by omega) hnm hml hs hm (by omega)
theorem own : ownKnob Try.prog.godebug = none := by kernel_rfl
theorem laidOut : laidOutB Try.prog = true := by kernel_rfl
theorem lifted (os : Os) (started : os.Started) (H : Type) (enc : TypeId × Value → H) :
    ReturnsInHanded {} Try.checked os 3 .any (Rows.fnExactSetExtentSpec.pre6 enc Try.prog Try.f3 Rows.fnExactSetExtentRow.domain false) (Rows.fnExactSetExtentSpec.post enc Try.prog Try.f3 false true false false) := by
  refine returnsInHanded_of_change (C := Try.checked) own started (by kernel_rfl) Try.func3
    (ChangeSpec.witness6 (enc := enc) (C := Try.checked) false ⟨#[], #[.slice none 0 0, .int .i64 0, .agg #[.int .i64 0, .string .empty, .int .i64 0, .int .i64 0, .slice none 0 0]], []⟩ 8 (by kernel_rfl) (by kernel_rfl) (by kernel_rfl) (by kernel_rfl)) ?_
  intro W base args ds gs before hval hW _ _
  have hW' := hW
  obtain ⟨p, q, hA, hV, rfl, hfz, hnd⟩ := hW
  refine (walk H enc W base args ds p hval hA).mono fun e W' ⟨he, hb⟩ => ?_
  subst he
  exact ⟨_, rfl, law_post laidOut (by kernel_rfl) rfl rfl Try.underlying4 (fun xs hx => by
      match xs, hx with
      | [x0, x1, x2], _ => exact ⟨rfl, rfl, rfl⟩) hW' hb⟩
theorem over : Rows.fnExactSetExtentRow.holds Try.pinned (OpenSpec.ofChange Rows.fnExactSetExtentSpec) :=
  OpenClaim.holds_of_wide 3 Try.f3 rfl rfl rfl rfl rfl rfl rfl ⟨rfl, rfl, rfl, rfl, rfl⟩ rfl rfl rfl rfl rfl (by kernel_rfl) Try.func3 (by kernel_rfl)
    (of_decide_eq_true (by kernel_rfl)) (by unfold Func.isWrapper; first | (rw [if_pos (by decide +kernel)]; kernel_rfl) | (rw [if_neg (by decide +kernel)]; exact ⟨rfl, rfl⟩))
    (fun os started H enc _ => lifted os started H enc)
/-- the given statement -/
theorem proved : Rows.FnExactSetExtentSaid := over
end Go.Proofs.Ytmgcaiilocifbaa.fnExactSetExtent
