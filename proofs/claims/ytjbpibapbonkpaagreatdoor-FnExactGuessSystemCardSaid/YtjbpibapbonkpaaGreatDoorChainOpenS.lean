/-
  Disks of chains: opening a disk, the reference's side.
-/
import Derived.Test.YtjbpibapbonkpaaGreatDoorChainOpen
import Derived.Deep.RegionLaw
namespace Go.Proofs.YtjbpibapbonkpaaGreatDoor
open Go Go.ChangeShapes Go.WideShapes Go.ChangeAt Go.RowKit lib
set_option linter.unusedVariables false
set_option maxRecDepth 100000
/-- 'x = append(x, s...)', s a string, x a row of the call's own: a step of a region that draws -/
theorem step_append_str {P : Program} {ops : Array Oper} {o : Oper} {a : Act} {w : World} {K : Act → World → Prop} {Q : Exit → Act → World → Prop} {E : Prop} (hgd : o.guard = none) (s x : Operand) (t u : TypeId)
    (ho : o.op = .call { callee := .builtin .append, args := #[s, x], argTypes := #[t, u] }) (base : Nat) (e : TypeId) (i : TypeInfo) (ht : P.underlying t = some (.slice e)) (hu : P.underlying u = some .string) (hi : P.info? e = some i)
    (hz : i.zero = some (.int .u8 0)) (hsize : i.size = 1) (hby : i.bytes = 1) (v : Value) (n : Nat) (xs : List Value) (hs : a.eval s = v) (hown : w.ownsRow base e 1 v n xs) (str : ByteArray) (hx : a.eval x = .string str)
    (h63 : n + str.size ≤ 1099511627776) (hbase : base ≤ w.heap.size) (hpos : 0 < str.size)
    (h : ∀ g cap w', w'.ownsRow base e 1 (.slice (some ⟨g, 0, none⟩) (n + str.size) cap) (n + str.size) (xs ++ Lib.strCells str) → w.grownBy w' v.ownBlock → K (a.put o.dst (.slice (some ⟨g, 0, none⟩) (n + str.size) cap)) w') :
    if Region.wanted o (yielded ops a.tmps) = true then Oper.wp P o a w K Q else E := by
  have hw : Region.wanted o (yielded ops a.tmps) = true := by simp [Region.wanted, hgd]
  rw [if_pos hw]
  obtain ⟨v', w', hrun, hown', hg, _⟩ := Lib.run_append_own_string (P := P) w base t u o.type e i ht hu hi hz hsize hby v n xs hown str (by simp only [maxLen]; omega) (by omega) hbase
  obtain ⟨g, cap, rfl, _, _⟩ := hown'.form (by omega)
  unfold Oper.wp
  simp [execOp, ho, resolve, invoke, builtin, hs, hx, hrun, Result.andThen]
  exact h _ _ _ hown' hg
theorem l16Open_none (A : Option Addr) (c : Nat) (w : World) : Calls Tryz.prog 15 #[.slice A 0 c] w fun e w' => e = .returned (.tuple #[.pointer none, .int .i64 1]) ∧ Below w.heap.size w w' := by
  go_enter Tryz.func15, Tryz.ntmps15
  go_wp2
  go_ret2
  exact ⟨rfl, (Below.refl _ _).alloc (Nat.le_refl _) _⟩
set_option maxHeartbeats 2000000 in
theorem l16Open_shape {w : World} {n c : Nat} {A : Option Addr} {s : Nat → ByteArray} (hs : Sl w w.heap.size A n (fun i => .string (s i))) (hsz : ∀ i, i < n → (s i).size ≤ 9223372036854775807) (hn : n ≤ 9223372036854775807) (h0 : 0 < n)
    (h : ¬ (8 ≤ n ∧ n ≤ 128 ∧ ((s 0).size = 8 ∨ (s 0).size = 16 ∨ (s 0).size = 32))) :
    Calls Tryz.prog 15 #[.slice A n c] w fun e w' => e = .returned (.tuple #[.pointer none, .int .i64 1]) ∧ Below w.heap.size w w' := by
  obtain ⟨bk, o, rfl, hbk, hc0⟩ := hs 0 h0
  dsimp only at hc0
  rw [Nat.add_zero] at hc0
  have hz := hsz 0 h0
  generalize s 0 = s0 at *
  have hd : decide ((8 : Int) ≤ n ∧ (n : Int) ≤ 128 ∧ ((s0.size : Int) = 8 ∨ (s0.size : Int) = 16 ∨ (s0.size : Int) = 32)) = false := by
    rw [decide_eq_false_iff_not]
    intro hh
    exact h (by omega)
  have HS := Lib.hid (fun w : World => l16Shape_any n s0.size w)
  rw [hd] at HS
  have hn0 : ((n : Int) = 0) = False := by simp; omega
  have hn1 : ((n : Int) == 0) = false := by simp; omega
  clear hd h
  go_enter Tryz.func15, Tryz.ntmps15
  go_wp2_with (go_at_call 24; refine (HS.out _).mono ?_; rintro e w1 ⟨rfl, hb1⟩)
  go_ret2
  exact ⟨rfl, ((Below.refl _ _).alloc (Nat.le_refl _) _).trans (hb1.mono (by simp))⟩
theorem own_brow {w : World} {B e N g cap : Nat} {U : Nat → UInt8} (h : w.ownsRow B e 1 (.slice (some ⟨g, 0, none⟩) N cap) N (bvals U N)) (hN : 0 < N) : BRow w e g N U ∧ B ≤ g ∧ N ≤ cap := by
  have hcap : N ≤ cap := by
    rcases h.2 with ⟨e0, _⟩ | ⟨g', cap', cur, hv, _, _, hn, _⟩
    · cases e0
    · injection hv with _ _ hc
      rw [hc]; exact hn
  obtain ⟨g', cs, hA, hB, hr, hsz, hc⟩ := own_row h hN
  simp only [Option.some.injEq, Addr.mk.injEq, and_true] at hA
  subst hA
  rw [Nat.mul_one] at hsz hc
  refine ⟨⟨cs, hr, hsz, fun i hi => ?_⟩, hB, hcap⟩
  rw [hc i hi]
  unfold bvals
  simp [hi]
set_option maxHeartbeats 4000000 in
theorem l16Open_any {w : World} {n c z : Nat} {A : Option Addr} {s : Nat → ByteArray} (hs : Sl w w.heap.size A n (fun i => .string (s i))) (hsz : ∀ i, i < n → (s i).size ≤ 9223372036854775807)
    (h8 : 8 ≤ n) (h128 : n ≤ 128) (hzs : z = 8 ∨ z = 16 ∨ z = 32) (hz : (s 0).size = z) :
    Calls Tryz.prog 15 #[.slice A n c] w fun e w' => (¬ (∀ i, i < n → (s i).size = z) → e = .returned (.tuple #[.pointer none, .int .i64 1]) ∧ Below w.heap.size w w') ∧
      ((∀ i, i < n → (s i).size = z) → (s 0 = hdrS n z → ∃ p, e = .returned (.tuple #[.pointer (some ⟨p, 0, none⟩), .int .i64 0]) ∧ OpenW w w' p n z s) ∧
        (s 0 ≠ hdrS n z → e = .returned (.tuple #[.pointer none, .int .i64 7]) ∧ Below w.heap.size w w')) := by
  have hlay : LayOk n z := ⟨h8, h128, hzs⟩
  have hz8 : 8 ≤ z := by omega
  have hz32 : z ≤ 32 := by omega
  obtain ⟨bk, o, rfl, hbk, hc0⟩ := hs 0 (by omega)
  dsimp only at hc0
  rw [Nat.add_zero] at hc0
  have he : entsN n ≤ 16 := by unfold entsN; omega
  have LS := Lib.hid (fun w' => l16Sizes_any n z w' hlay)
  have LH := Lib.hid (fun w' : World => l16Head_any n z (entsN n) (dirN n z) (dataN n z) w' h128 he)
  have hd : decide ((8 : Int) ≤ n ∧ (n : Int) ≤ 128 ∧ ((z : Int) = 8 ∨ (z : Int) = 16 ∨ (z : Int) = 32)) = true := by
    rw [decide_eq_true_iff]
    omega
  have HS := Lib.hid (fun w : World => l16Shape_any n z w)
  rw [hd] at HS
  have HSN := Lib.hid (fun (k : Nat) (h : (s k).size = z) => bvals_snoc (z := z) (s := s) k h)
  have HI := Lib.hid (hdr_iff (s := s) hz hz8 (head6_size n (entsN n)))
  have HH : hdrS n z = head6 n (entsN n) ++ zerosB (z - 6) := rfl
  rw [← HH] at HI
  have hNb : n * z ≤ 4096 := Nat.mul_le_mul h128 hz32
  have hN0 : 0 < n * z := Nat.mul_pos (by omega) (by omega)
  have h6 := head6_size n (entsN n)
  clear HH hlay hd hzs
  unfold OpenW
  generalize entsN n = e0 at *
  generalize dirN n z = d at *
  generalize dataN n z = t at *
  generalize hdrS n z = H at *
  generalize head6 n e0 = H6 at *
  generalize joinU z s = U at *
  have hn0 : ((n : Int) = 0) = False := by simp; omega
  have hn1 : ((n : Int) == 0) = false := by simp; omega
  have HSZ := Lib.hid hsz
  have HSS := Lib.hid hs
  clear hsz hs
  obtain ⟨i0, hi, hz0, hz1, hz2⟩ := info_parts (show (Tryz.prog.info? 5).map (fun i => (i.zero, i.size, i.bytes)) = some (some (.int .u8 0), 1, 1) by kernel_rfl)
  have I0 := Lib.hid hi
  have I1 := Lib.hid hz0
  have I2 := Lib.hid hz1
  have I3 := Lib.hid hz2
  clear hi hz0 hz1 hz2
  unfold layV at LS LH
  generalize hs0 : s 0 = s0 at *
  have HS0 := Lib.hid hs0
  clear hs0
  go_enter Tryz.func15, Tryz.ntmps15
  go_wp2_with (go_at_call 24; refine (HS.out _).mono ?_; rintro e w1 ⟨rfl, hb1⟩)
  have hr0 : Rw w1 w.heap.size 44 #[.int .i64 0, .int .i64 0, .int .i64 0, .int .i64 0, .int .i64 0, .slice none 0 0] := (Rw.new w _ _).below hb1 (by simp)
  have hB1 : Below w.heap.size w w1 := ((Below.refl _ _).alloc (Nat.le_refl _) _).trans (hb1.mono (by simp))
  go_loopw [5] (fun s5 wr => ∃ (k : Nat) (v : Value), k ≤ n ∧ s5 = .int .i64 k ∧ (∀ j, j < k → (s j).size = z) ∧ Rw wr w.heap.size 44 #[.int .i64 0, .int .i64 0, .int .i64 0, .int .i64 0, .int .i64 0, v] ∧ wr.ownsRow (w.heap.size + 1) 5 1 v (k * z) (bvals U (k * z)) ∧ Below w.heap.size w wr) (fun i _ => n - (intOf i).toNat)
  case atStart => exact ⟨0, _, Nat.zero_le _, rfl, fun j hj => absurd hj (by omega), hr0, by rw [Nat.zero_mul]; exact World.ownsRow_nil _ _ _ _, hB1⟩
  case round =>
    obtain ⟨k, v, hk, rfl, hj, HR, HO, HB⟩ := hrel
    have HJ := Lib.hid hj
    have HO' := Lib.hid HO
    clear hj HO
    have x0 : wr.cell? ⟨bk, o, none⟩ = some (.string s0) := (HB.cell (p := ⟨bk, o, none⟩) hbk).trans hc0
    by_cases hlt : k < n
    · obtain ⟨_, _, e', _, hc⟩ := HSS.out k hlt
      simp only [Option.some.injEq, Addr.mk.injEq, and_true] at e'
      obtain ⟨rfl, rfl⟩ := e'
      dsimp only at hc
      have xk : wr.cell? ⟨bk, o + k, none⟩ = some (.string (s k)) := (HB.cell (p := ⟨bk, o + k, none⟩) hbk).trans hc
      have hyb := HSZ.out k hlt
      obtain ⟨sk, hsk⟩ : ∃ sk, s k = sk := ⟨_, rfl⟩
      rw [hsk] at xk hyb
      have HSK := Lib.hid hsk
      clear hc hsk
      by_cases hy : sk.size = z
      · have e1 : ((sk.size : Int) != z) = false := by simp [hy]
        have r5 := HR.cell 5
        have rf := HR.frozen 5
        go_wp2_with fail
        go_region
        go_wp2_with fail
        have hkN : k * z ≤ 4096 := Nat.le_trans (Nat.mul_le_mul_right z (show k ≤ n by omega)) hNb
        have hbs : w.heap.size + 1 ≤ wr.heap.size := HR.lt
        have HSK2 := Lib.hid (HSK.out.symm)
        go_region_law (refine step_append_str rfl (.tmp 44) (.tmp 48) 42 9 rfl (w.heap.size + 1) 5 i0 Tryz.underlying42 Tryz.underlying9 I0.out I1.out I2.out I3.out v (k * z) (bvals U (k * z)) (by rfl) (HO'.out.kept (only_drew (only_drew (only_refl wr none))) (by cases v.ownBlock <;> simp)) sk (by rfl) (by omega) hbs (by omega) ?_; intro gg cap w3 ho3 hg3; have hr3 : Rw w3 w.heap.size 44 #[.int .i64 0, .int .i64 0, .int .i64 0, .int .i64 0, .int .i64 0, v] := (hg3.block w.heap.size HR.lt (fun e => by have := own_lt HO'.out w.heap.size e.symm; omega)).trans HR; have q5 := hr3.cell 5; have qf := hr3.frozen 5)
        all_goals
          go_wp2_with fail
          go_roundw
          case rel =>
            refine ⟨k + 1, _, by omega, by go_num, fun j hj => ?_, hr3.set 5 _, ?_, ?_⟩
            · rcases Nat.lt_succ_iff_lt_or_eq.1 hj with h | rfl
              · exact HJ.out j h
              · rw [HSK.out]; exact hy
            · have := ho3.kept (w' := w3.setCell ⟨w.heap.size, 5, none⟩ (.slice (some ⟨gg, 0, none⟩) (k * z + sk.size) cap)) (only_setCell (only_refl w3 _) (.inl rfl) _) (.inr (fun e => by have := own_lt ho3 w.heap.size e; omega))
              rw [HSK2.out, HSN.out k (by rw [HSK.out]; exact hy), ← HSK2.out, hy] at this
              rw [Nat.add_mul, Nat.one_mul]
              exact this
            · exact (HB.drew.drew.grown hg3 (show w.heap.size ≤ wr.heap.size by omega) (fun j e => by have := own_lt HO'.out j e; omega)).setCell (p := ⟨w.heap.size, 5, none⟩) (Nat.le_refl _) _
          case measure => simp [intOf]; omega
      · have e1 : ((sk.size : Int) != z) = true := by simp; omega
        have e2 : ((sk.size : Int) = z) = False := by simp; omega
        have HY := Lib.hid hy
        clear hy
        go_wp2_with fail
        go_region
        go_wp2_with fail
        go_ret2
        exact ⟨fun _ => ⟨rfl, HB.drew⟩, fun h => absurd (h k hlt) (by rw [HSK.out]; exact HY.out)⟩
    · obtain rfl : k = n := by omega
      obtain ⟨g, cap, rfl, hgB, hgl⟩ := HO'.out.form hN0
      obtain ⟨hbr, _, hcap⟩ := own_brow HO'.out hN0
      have BR := Lib.hid hbr
      clear hbr
      go_upto_region 10 with fail
      go_cut [] (fun wx => Rw wx w.heap.size 44 #[.int .i64 k, .int .i64 z, .int .i64 e0, .int .i64 d, .int .i64 t, .slice (some ⟨g, 0, none⟩) (k * z) cap] ∧ BRow wx 5 g (k * z) U ∧ Below w.heap.size w wx)
      case first =>
        go_wp2_with (go_at_call 25; refine (LS.out _).mono ?_; rintro e4 w4 ⟨rfl, hb4⟩; have hr4 := HR.below hb4 HR.lt; have p0 := hr4.cell 0; have p1 := hr4.cell 1; have p2 := hr4.cell 2; have p3 := hr4.cell 3; have p4 := hr4.cell 4; have f0 := hr4.frozen 0; have f1 := hr4.frozen 1; have f2 := hr4.frozen 2; have f3 := hr4.frozen 3; have f4 := hr4.frozen 4)
        go_meet
        have hgne : g ≠ w.heap.size := by omega
        have hB4 := HB.trans (hb4.mono HB.size)
        exact ⟨((((hr4.set 0 _).set 1 _).set 2 _).set 3 _).set 4 _, (((((BR.out.below hb4 BR.out.lt).far (p := ⟨w.heap.size, 0, none⟩) hgne _).far (p := ⟨w.heap.size, 1, none⟩) hgne _).far (p := ⟨w.heap.size, 2, none⟩) hgne _).far (p := ⟨w.heap.size, 3, none⟩) hgne _).far (p := ⟨w.heap.size, 4, none⟩) hgne _,
          ((((hB4.setCell (p := ⟨w.heap.size, 0, none⟩) (Nat.le_refl _) _).setCell (p := ⟨w.heap.size, 1, none⟩) (Nat.le_refl _) _).setCell (p := ⟨w.heap.size, 2, none⟩) (Nat.le_refl _) _).setCell (p := ⟨w.heap.size, 3, none⟩) (Nat.le_refl _) _).setCell (p := ⟨w.heap.size, 4, none⟩) (Nat.le_refl _) _⟩
      case rest =>
        obtain ⟨HR5, BR5, HB5⟩ := hcut
        have c0 := HR5.cell 0
        have c1 := HR5.cell 1
        have c2 := HR5.cell 2
        have c3 := HR5.cell 3
        have c4 := HR5.cell 4
        go_wp2_with (go_at_call 26; refine (LH.out _).mono ?_; rintro e5 w5 ⟨rfl, hb5⟩)
        have HR6 := HR5.below hb5 HR5.lt
        have BR6 := Lib.hid (BR5.below hb5 BR5.lt)
        have HB6 := HB5.trans (hb5.mono HB5.size)
        have hC : ChW w5 w.heap.size g k z e0 d t (k * z) cap U := ⟨HR6.cell 0, HR6.cell 1, HR6.cell 2, HR6.cell 3, HR6.cell 4, HR6.cell 5, BR6.out, by omega, HR6.lt⟩
        have HC := Lib.hid hC
        have z1 := HR6.cell 1
        have z5 := HR6.cell 5
        clear c0 c1 c2 c3 c4 HR5 BR5 HB5 hb5 hC HR HB x0
        have hall : ∀ i, i < k → (s i).size = z := HJ.out
        have HALL := Lib.hid hall
        clear hall
        have hkz : z ≤ k * z := Nat.le_mul_of_pos_left _ (by omega)
        go_loopw [7, 8] (fun s7 s8 wr => ∃ i : Nat, i ≤ z ∧ s7 = .int .i64 i ∧ (∀ j, j < i → U j = wantU H6 j) ∧ wr = w5) (fun i _ _ => z - (intOf i).toNat)
        case atStart => exact ⟨0, Nat.zero_le _, rfl, fun j hj => absurd hj (by omega), rfl⟩
        case round =>
          obtain ⟨i, hi, rfl, hj2, rfl⟩ := hrel
          have HJ2 := Lib.hid hj2
          clear hj2
          by_cases hlt2 : i < z
          · have hu := BR6.out.cell (i := i) (by omega)
            have hW : wantU H6 i = if i < 6 then byteAt H6 i else 0 := rfl
            by_cases hi6 : i < 6
            · have hb := byteAt_get H6 i (by omega)
              rw [if_pos hi6] at hW
              by_cases hq : U i = byteAt H6 i
              · rw [hq] at hu
                have HQ := Lib.hid hq
                have HW := Lib.hid hW
                clear hq hW
                go_wp2
                exact ⟨⟨i + 1, by omega, by go_num, fun j hj => by
                  rcases Nat.lt_succ_iff_lt_or_eq.1 hj with h | rfl
                  · exact HJ2.out j h
                  · rw [HQ.out, HW.out], trivial⟩, by simp [intOf]; omega⟩
              · have hqn : ((U i).toNat = (byteAt H6 i).toNat) = False := by
                  rw [eq_iff_iff]
                  exact ⟨fun h => hq (UInt8.toNat_inj.1 h), False.elim⟩
                have hqi : (((U i).toNat : Int) != ((byteAt H6 i).toNat : Int)) = true := by
                  rw [bne_iff_ne]
                  intro h
                  exact hq (UInt8.toNat_inj.1 (by omega))
                have hqj : (((U i).toNat : Int) = ((byteAt H6 i).toNat : Int)) = False := by
                  rw [eq_iff_iff]
                  exact ⟨fun h => hq (UInt8.toNat_inj.1 (by omega)), False.elim⟩
                have HQ := Lib.hid hq
                have HW := Lib.hid hW
                clear hq hW
                go_wp2
                go_ret2
                exact ⟨fun h => absurd HALL.out h, fun _ => ⟨fun h => absurd (HI.out.1 h i hlt2) (by rw [HW.out]; exact HQ.out), fun _ => ⟨rfl, HB6⟩⟩⟩
            · rw [if_neg hi6] at hW
              by_cases hq : U i = 0
              · rw [hq] at hu
                have HQ := Lib.hid hq
                have HW := Lib.hid hW
                clear hq hW
                go_wp2
                exact ⟨⟨i + 1, by omega, by go_num, fun j hj => by
                  rcases Nat.lt_succ_iff_lt_or_eq.1 hj with h | rfl
                  · exact HJ2.out j h
                  · rw [HQ.out, HW.out], trivial⟩, by simp [intOf]; omega⟩
              · have hqn : ((U i).toNat = 0) = False := by
                  rw [eq_iff_iff]
                  exact ⟨fun h => hq (UInt8.toNat_inj.1 h), False.elim⟩
                have hqi : (((U i).toNat : Int) != 0) = true := by
                  rw [bne_iff_ne]
                  intro h
                  exact hq (UInt8.toNat_inj.1 (by simpa using h))
                have hqj : (((U i).toNat : Int) = 0) = False := by
                  rw [eq_iff_iff]
                  exact ⟨fun h => hq (UInt8.toNat_inj.1 (by simpa using h)), False.elim⟩
                have HQ := Lib.hid hq
                have HW := Lib.hid hW
                clear hq hW
                go_wp2
                go_ret2
                exact ⟨fun h => absurd HALL.out h, fun _ => ⟨fun h => absurd (HI.out.1 h i hlt2) (by rw [HW.out]; exact HQ.out), fun _ => ⟨rfl, HB6⟩⟩⟩
          · obtain rfl : i = z := by omega
            go_wp2
            go_ret2
            exact ⟨fun h => absurd HALL.out h, fun _ => ⟨fun _ => ⟨_, rfl, g, cap, HC.out, hcap, HB6, Nat.le_refl _, by omega⟩, fun h => absurd (HI.out.2 HJ2.out) h⟩⟩
end Go.Proofs.YtjbpibapbonkpaaGreatDoor
