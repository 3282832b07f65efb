/-
  ReadFiles: the reference's side.
-/
import Derived.Test.YtigemmahnmcbdaaRfxQ
import Derived.Test.YtigemmahnmcbdaaRfxR
import Derived.Deep.DeepCutAuto
import Derived.Deep.CutBlock
import Derived.Deep.QuietTactic
import Derived.BigQuiet
namespace Go.Proofs.Ytigemmahnmcbdaa
open Go Go.ChangeShapes Go.WideShapes Go.ChangeAt Go.RowKit lib
set_option linter.unusedVariables false
set_option linter.unusedSimpArgs false
set_option maxRecDepth 100000
theorem infoFLS : (Try.prog.info? 31).map (fun i => (i.zero, i.size, i.bytes)) = some (some (.agg #[.string ⟨#[]⟩, .string ⟨#[]⟩]), 2, 32) := by kernel_rfl
theorem own_neF {w : World} {B B' e e' k k' n n' : Nat} {v v' : Value} {xs xs' : List Value} (h : w.ownsRow B e k v n xs) (h' : w.ownsRow B' e' k' v' n' xs') (hne : e ≠ e') : v.ownBlock = none ∨ v.ownBlock ≠ v'.ownBlock := by
  rcases h.2 with ⟨hv, _⟩ | ⟨g, cap, cur, hv, _, hg, _⟩
  · left; rw [hv]; rfl
  · rcases h'.2 with ⟨hv', _⟩ | ⟨g', cap', cur', hv', _, hg', _⟩
    · right; rw [hv, hv']; simp [Value.ownBlock]
    · right
      rw [hv, hv']
      simp only [Value.ownBlock]
      intro e
      have e2 : g = g' := by simpa using e
      subst e2
      rw [hg] at hg'
      cases hg'
      exact hne rfl
theorem own_neRow {w : World} {B e k n : Nat} {v : Value} {xs : List Value} (h : w.ownsRow B e k v n xs) {q T : Nat} {cs : Array Value} (hr : Rw w q T cs) (hne : e ≠ T) : v.ownBlock = none ∨ v.ownBlock ≠ some q := by
  rcases h.2 with ⟨hv, _⟩ | ⟨g, cap, cur, hv, hb, hg, _⟩
  · left; rw [hv]; rfl
  · right
    rw [hv]
    simp only [Value.ownBlock]
    intro e
    have e2 : g = q := by simpa using e
    subst e2
    unfold Rw at hr
    rw [hg] at hr
    cases hr
    exact hne rfl
theorem splitB_pieces (c : UInt8) (s : ByteArray) : (piecesT c s).map (·.data.toList) = splitB c s.data.toList := by
  unfold piecesT
  rw [List.map_map]
  exact List.map_id' _
theorem piece_get (c : UInt8) (s : ByteArray) (i : Nat) : (splitB c s.data.toList).getD i [] = ((piecesT c s).getD i ⟨#[]⟩).data.toList := by
  rw [← splitB_pieces, List.getD_eq_getElem?_getD, List.getD_eq_getElem?_getD, List.getElem?_map]
  cases (piecesT c s)[i]? <;> rfl
theorem piece_size (c : UInt8) (s : ByteArray) (i : Nat) : ((piecesT c s).getD i ⟨#[]⟩).size ≤ s.size := by
  rw [Lib.size_eq, Lib.size_eq, ← piece_get, List.getD_eq_getElem?_getD]
  by_cases h : i < (splitB c s.data.toList).length
  · rw [List.getElem?_eq_getElem h]
    exact splitB_short _ _ (List.getElem_mem h)
  · rw [List.getElem?_eq_none (by omega)]
    simp
theorem slP {w : World} {B e n c : Nat} {A : Option Addr} {N : List ByteArray} (h : w.ownsRow B e 1 (.slice A n c) n (N.map Value.string)) (hn : n = N.length) : Sl w w.heap.size A n (fun i => .string (N.getD i ⟨#[]⟩)) := by
  have h1 := own_sl h
  rw [Nat.mul_one] at h1
  refine h1.congr fun i hi => ?_
  rw [List.getD_eq_getElem?_getD, List.getD_eq_getElem?_getD, List.getElem?_map]
  have : i < N.length := by omega
  rw [List.getElem?_eq_getElem this]
  rfl
theorem RdL.size {P : List (List UInt8)} {L : List FileP} (h : RdL P L) (hk : L.length ≤ P.length) (hz : ∀ i, (P.getD i []).length ≤ 1048576) (j : Nat) (hj : j < L.length * 2) : (nthF L j).size ≤ 1048576 := by
  have hi : j / 2 < L.length := by omega
  have h1 := h.lines
  have h2 : P.getD (j / 2) [] = lineF L[j / 2] := by
    have h3 : (P.take L.length)[j / 2]? = (L.map lineF)[j / 2]? := by rw [h1]
    rw [List.getElem?_take_of_lt hi, List.getElem?_map, List.getElem?_eq_getElem hi] at h3
    rw [List.getD_eq_getElem?_getD, h3]
    rfl
  have h4 := hz (j / 2)
  rw [h2] at h4
  unfold lineF at h4
  rw [List.length_append, List.length_cons] at h4
  have e : L.getD (j / 2) (⟨#[]⟩, ⟨#[]⟩) = L[j / 2] := by rw [List.getD_eq_getElem?_getD, List.getElem?_eq_getElem hi]; rfl
  have h5 : L[j / 2].2.data.toList.length ≤ (datL L[j / 2].2.data.toList).length := by
    unfold datL
    by_cases hd : L[j / 2].2.data.toList = []
    · rw [if_pos hd, hd]; simp
    · rw [if_neg hd]
      have := unhex_len _ _ (unhex_hexL L[j / 2].2.data.toList)
      omega
  unfold nthF
  rw [e]
  split
  · rw [Lib.size_eq]; omega
  · rw [Lib.size_eq]; omega
set_option maxHeartbeats 8000000 in
theorem specReadFiles_any {w : World} {s : ByteArray} (hs : s.size ≤ 1048576) : Calls Try.prog 4 #[.string s] w fun e w' => RfOut 31 s e w w' := by
  have hpz := piece_size 10 s
  have hpg := piece_get 10 s
  have hlen := piecesT_len 10 s
  have hpos := piecesT_pos 10 s
  have hlb : (piecesT 10 s).length ≤ 1048577 := by
    have h1 := splitB_len (c := 10) s.data.toList
    rw [hlen]
    rw [← Lib.size_eq] at h1
    omega
  have hsp := fun W : World => l01Split_any (w := W) (s := s) 10 hs
  have href := fun L => isText_ref (s := s) (L := L)
  have HRD := Lib.hid (fun L M => isText_rd (s := s) (L := L) (M := M))
  have HTX := Lib.hid (fun L => RdL.text (s := s) (L := L))
  obtain ⟨PL, hPL⟩ : ∃ PL, splitB 10 s.data.toList = PL := ⟨_, rfl⟩
  obtain ⟨N, hN⟩ : ∃ N, piecesT 10 s = N := ⟨_, rfl⟩
  rw [hN] at hlen hpos hlb hpz
  simp only [hN] at hsp hpg
  rw [hPL] at hlen hpg href HRD HTX
  obtain ⟨m, hm⟩ : ∃ m, N.length = m := ⟨_, rfl⟩
  rw [hm] at hlen hpos hlb hsp
  obtain ⟨k, hk⟩ : ∃ k, k = m - 1 := ⟨_, rfl⟩
  have hmk : IntKind.i64.wrap ((m : Int) - 1) = (k : Int) := by rw [IntKind.wrap_i64]; omega
  have hkm : k < m := by omega
  have hki : (k : Int) < (m : Int) := by omega
  have HM := Lib.hid hm
  have HPG := Lib.hid hpg
  have HPL := Lib.hid hlen
  have HREF := Lib.hid href
  have HK := Lib.hid (show m = k + 1 by omega)
  have HSP := Lib.hid hsp
  clear hPL hN hm hpg hlen href hsp hk
  have HO1 := Lib.hid (own_nilE w 31 2 w.heap.size (Nat.le_refl _))
  have HB1 := Lib.hid ((Below.refl w.heap.size w).alloc (Nat.le_refl _) (.cells #[] 31))
  go_enter Try.func4, Try.ntmps4
  go_upto_region 3 with (go_at_call 9; refine (HSP.out _).mono ?_; rintro e w2 ⟨A, d, rfl, ho, hb2⟩)
  have hbB : Below w.heap.size w w2 := HB1.out.trans (hb2.mono HB1.out.size)
  have HB2 := Lib.hid hbB
  have HO2 := Lib.hid (own_below HO1.out hb2)
  have hz2 : w.heap.size ≤ w2.heap.size := hbB.size
  have hsl := slP ho HM.out.symm
  have HS := Lib.hid ho
  obtain ⟨ba, oa, hA, hbl, hca⟩ := hsl k hkm
  subst hA
  dsimp only at hca
  clear ho hb2 hbB hsl
  obtain ⟨x, hx⟩ : ∃ x, N.getD k ⟨#[]⟩ = x := ⟨_, rfl⟩
  rw [hx] at hca
  have HX := Lib.hid hx
  clear hx
  have HOZ := Lib.hid (own_nilE w2 31 2 w.heap.size hz2)
  have HBZ := Lib.hid (HB2.out.alloc hz2 (.cells #[] 31))
  by_cases hx0 : x.size = 0
  · have he : x.toList.isEmpty = true := by rw [empty_toList]; simp [hx0]
    by_cases h17 : 17 < m
    · have t17 : decide ((m : Int) > 17) = true := by simp; omega
      have t17' : decide ((17 : Int) < (m : Int)) = true := by simp; omega
      go_wp2_with fail
      go_ret2
      exact RfOut.bad (fun L h => by
        have h1 := HREF.out L h
        have h2 := HPL.out
        omega) HOZ.out HBZ.out
    · have t17 : decide ((m : Int) > 17) = false := by simp; omega
      have t17' : decide ((17 : Int) < (m : Int)) = false := by simp; omega
      have hlast : PL.getD k [] = [] := by
        rw [HPG.out, HX.out]
        exact List.eq_nil_of_length_eq_zero (by rw [← Lib.size_eq]; exact hx0)
      have HLAST := Lib.hid hlast
      clear hlast
      obtain ⟨B0, HS0⟩ : ∃ B0, Hid (w2.ownsRow B0 9 1 (.slice (some ⟨ba, oa, none⟩) m d) m (N.map Value.string)) := ⟨_, HS⟩
      clear hx0
      have hm17 : m ≤ 17 := by omega
      go_wp2_with fail
      go_loopw [4, 6] (fun s4 s6 wr => ∃ (i : Nat) (L : List FileP) (A' : Option Addr) (c' : Nat), i ≤ k ∧ L.length = i ∧ s6 = .int .i64 (i : Int) ∧ s4 = .slice A' i c' ∧ RdL PL L ∧ wr.ownsRow w.heap.size 31 2 (.slice A' i c') i (L.flatMap encP) ∧ wr.ownsRow B0 9 1 (.slice (some ⟨ba, oa, none⟩) m d) m (N.map Value.string) ∧ Below w.heap.size w wr) (fun _ i _ => k - (intOf i).toNat)
      case atStart => exact ⟨0, [], _, 0, by omega, rfl, rfl, rfl, RdL.nil _, HO2.out, HS0.out, HB2.out⟩
      case round =>
        obtain ⟨i, L, A', c', hi, hL, rfl, rfl, hrd, hr, hn, hb⟩ := hrel
        have HB := Lib.hid hb
        have HN := Lib.hid hn
        have HR := Lib.hid hr
        have HRDL := Lib.hid hrd
        have HL := Lib.hid hL
        have hzr : w.heap.size ≤ wr.heap.size := hb.size
        have hsl := slP hn HM.out.symm
        obtain ⟨i1, hi1⟩ : ∃ i1, i1 = i + 1 := ⟨_, rfl⟩
        have hw1 : IntKind.i64.wrap ((i : Int) + 1) = (i1 : Int) := by rw [IntKind.wrap_i64]; omega
        have HI1 := Lib.hid hi1
        by_cases hlt : i < k
        · have hlt1 : (i1 : Int) < (m : Int) := by omega
          have hlt2 : (i : Int) < (m : Int) := by omega
          obtain ⟨b1, o1, e1, hbl1, hc1⟩ := hsl i (by omega)
          simp only [Option.some.injEq, Addr.mk.injEq] at e1
          obtain ⟨rfl, rfl, _⟩ := e1
          dsimp only at hc1
          have hyz := Nat.le_trans (hpz i) hs
          have hline := HPG.out i
          obtain ⟨y, hy⟩ : ∃ y, N.getD i ⟨#[]⟩ = y := ⟨_, rfl⟩
          rw [hy] at hc1 hyz hline
          have HLINE := Lib.hid hline
          have HSY := Lib.hid (fun W : World => l01Split_any (w := W) (s := y) 32 hyz)
          have hz2y := piece_size 32 y
          have hspl := splitB_pieces 32 y
          obtain ⟨Y, hY⟩ : ∃ Y, piecesT 32 y = Y := ⟨_, rfl⟩
          rw [hY] at HSY hspl hz2y
          have HSPL := Lib.hid hspl
          clear hY hspl hy hline hrd hr hn hb hsl hL hi1
          obtain ⟨m2, hm2⟩ : ∃ m2, Y.length = m2 := ⟨_, rfl⟩
          rw [hm2] at HSY
          have HM2 := Lib.hid hm2
          clear hm2
          go_upto_region 9 with (go_at_call 9; refine (HSY.out _).mono ?_; rintro e w3 ⟨A2, d2, rfl, ho3, hb3⟩)
          have hbB3 := HB.out.trans (hb3.mono hzr)
          have HB3 := Lib.hid hbB3
          have HR3 := Lib.hid (own_below HR.out hb3)
          have HN3 := Lib.hid (own_below HN.out hb3)
          have hz3 : w.heap.size ≤ w3.heap.size := hbB3.size
          have HY3 := Lib.hid ho3
          have hsl2 := slP ho3 HM2.out.symm
          have HOZ3 := Lib.hid (own_nilE w3 31 2 w.heap.size hz3)
          have HBZ3 := Lib.hid (hbB3.alloc hz3 (.cells #[] 31))
          clear ho3 hb3 hbB3
          by_cases hm2 : m2 = 2
          · subst hm2
            obtain ⟨b2, o2, e2, hbl2, hx1⟩ := hsl2 0 (by omega)
            obtain ⟨b3, o3, e3, hbl3, hx2⟩ := hsl2 1 (by omega)
            subst e2
            simp only [Option.some.injEq, Addr.mk.injEq] at e3
            obtain ⟨rfl, rfl, _⟩ := e3
            simp only [Nat.add_zero] at hx1
            dsimp only at hx2
            have hYY : splitB 32 y.data.toList = [(Y.getD 0 ⟨#[]⟩).data.toList, (Y.getD 1 ⟨#[]⟩).data.toList] := by
              rw [← HSPL.out]
              have := HM2.out
              match Y, this with
              | [a, b], _ => rfl
            have hz21 := Nat.le_trans (hz2y 1) hyz
            clear hsl2 hz2y
            obtain ⟨x1, hx1e⟩ : ∃ x1, Y.getD 0 ⟨#[]⟩ = x1 := ⟨_, rfl⟩
            obtain ⟨x2, hx2e⟩ : ∃ x2, Y.getD 1 ⟨#[]⟩ = x2 := ⟨_, rfl⟩
            rw [hx1e, hx2e] at hYY
            rw [hx1e] at hx1
            rw [hx2e] at hx2 hz21
            have hlP := lineP_two hYY
            clear hx1e hx2e hYY
            by_cases hx20 : x2.size = 0
            · have he2 : x2.toList.isEmpty = true := by rw [empty_toList]; simp [hx20]
              have hnil : x2.data.toList = [] := List.eq_nil_of_length_eq_zero (by rw [← Lib.size_eq]; exact hx20)
              rw [if_pos hnil] at hlP
              have HLP := Lib.hid hlP
              clear hlP hnil hx20
              go_wp2_with fail
              go_ret2
              exact RfOut.bad (fun L' h => by
                obtain ⟨h1, h2, h3, h4⟩ := HREF.out L' h
                have h5 := HPL.out
                have h6 := HK.out
                refine h4 i (by omega) ?_
                unfold lineQ
                rw [HLINE.out, HLP.out]
                rfl) HOZ3.out HBZ3.out
            · have he2 : x2.toList.isEmpty = false := by rw [empty_toList]; simp [hx20]
              have hnil : x2.data.toList ≠ [] := fun e => hx20 (by rw [Lib.size_eq, e]; rfl)
              rw [if_neg hnil] at hlP
              have HLP := Lib.hid hlP
              clear hlP hnil hx20
              go_upto_region 12 with fail
              have hr4 := Rw.new w3 31 #[.string x1, .string ⟨#[]⟩]
              have hb40 := (Below.refl w3.heap.size w3).alloc (Nat.le_refl _) (.cells #[.string x1, .string ⟨#[]⟩] 31)
              have HB4 := Lib.hid (HB3.out.trans (hb40.mono hz3))
              have HO4 := Lib.hid (own_below HR3.out hb40)
              have HN4 := Lib.hid (own_below HN3.out hb40)
              have hx24 := hb40.cell (p := ⟨b2, o2 + 1, none⟩) hbl2
              rw [hx2] at hx24
              have HQ := Lib.hid (show w3.heap.size < (w3.alloc (.cells #[.string x1, .string ⟨#[]⟩] 31)).heap.size by simp)
              have hz4 := Nat.le_trans hz3 (Nat.le_of_lt HQ.out)
              have HA := Lib.hid (show (Value.slice A' i c').ownBlock = none ∨ (Value.slice A' i c').ownBlock ≠ some w3.heap.size from .inr fun e => by
                have := (HR3.out.lt _ e).2
                omega)
              have HX4 := Lib.hid hr4
              clear hb40 hr4 HOZ3 HBZ3
              generalize w3.alloc (.cells #[.string x1, .string ⟨#[]⟩] 31) = W4 at *
              generalize w3.heap.size = q at *
              by_cases hd : x2 = ⟨#[45]⟩
              · have hd' : (x2.toList == [45]) = true := by rw [hd, Lib.toList_data]; rfl
                have HLQ := Lib.hid (show lineQ y.data.toList = some (x1, ⟨#[]⟩) from by
                  unfold lineQ
                  rw [HLP.out, if_pos (by rw [hd])]
                  rfl)
                have cf0 := HX4.out.cell 0
                have cf1 := HX4.out.cell 1
                dsimp at cf0 cf1
                clear hd
                go_wp2_with (at_builtin; refine wpList_pushT (.tmp 69) (.tmp 71) 22 w.heap.size 31 (.agg #[.string ⟨#[]⟩, .string ⟨#[]⟩]) [.string x1, .string ⟨#[]⟩] 2 32 _ i _ HO4.out rfl rfl Try.underlying22 infoFLS rfl (by omega) rfl rfl rfl rfl (by intro u hu; simp at hu; rcases hu with rfl | rfl <;> rfl) (by omega) (by omega) hz4 ?_; intro A6 c6 w6 ho6 hg6)
                have hn6 := HN4.out.kept hg6 (own_neF HN4.out HO4.out (by decide))
                have hb6 := HB4.out.trans (below_grown hg6 (fun j e => (HO4.out.lt j e).1) hz4)
                go_roundw
                case rel => exact ⟨i + 1, L ++ [(x1, ⟨#[]⟩)], some A6, c6, by omega, by rw [List.length_append, HL.out]; rfl, by rw [← HI1.out], rfl, HRDL.out.snoc (by rw [HL.out, ← HPL.out]; omega) (by rw [HL.out, HLINE.out]; exact HLQ.out), by rw [List.flatMap_append]; exact ho6, hn6, hb6⟩
                case measure =>
                  have h1 := HI1.out
                  simp [intOf]
                  omega
              · have hd' : (x2.toList == [45]) = false := by
                  rw [beq_eq_false_iff_ne]
                  intro e
                  exact hd (bytes_eq (by rw [← Lib.toList_data]; exact e))
                have hd2 : x2.data.toList ≠ [45] := fun e => hd (bytes_eq e)
                have hlp2 := HLP.out
                rw [if_neg hd2] at hlp2
                have HU := specUnhex_any x2 hz21
                have hx2z := Lib.size_eq x2
                clear hd hd2
                by_cases hbad : unhex x2.data.toList = none ∨ 8192 < x2.size
                · have HU2 := Lib.hid (fun W : World => (HU W).mono (fun e w' (h : UnhOutS x2 e W w') => show e = .returned (.tuple #[.string ⟨#[]⟩, .bool false]) ∧ Below W.heap.size W w' from by
                    obtain ⟨⟨d, h1, h2, _⟩ | ⟨_, h1⟩, hb⟩ := h
                    · rcases hbad with e | e
                      · rw [h1] at e; cases e
                      · omega
                    · exact ⟨h1, hb⟩))
                  have HLQ := Lib.hid (show lineQ y.data.toList = none from by
                    unfold lineQ
                    rw [hlp2]
                    by_cases h8 : 8192 < x2.data.toList.length
                    · rw [if_pos h8]; rfl
                    · rw [if_neg h8]
                      rcases hbad with e | e
                      · rw [e]; rfl
                      · omega)
                  clear hbad hlp2 HU hx2z
                  go_upto_region 15 with (go_at_call 10; refine (HU2.out _).mono ?_; rintro e w5 ⟨rfl, hb5⟩)
                  have hb6 := HB4.out.trans (hb5.mono hz4)
                  have HOZ5 := Lib.hid (own_nilE w5 31 2 w.heap.size hb6.size)
                  have HBZ5 := Lib.hid (hb6.alloc hb6.size (.cells #[] 31))
                  clear hb5 hb6
                  go_wp2_with fail
                  go_ret2
                  exact RfOut.bad (fun L' h => by
                    obtain ⟨h1, h2, h3, h4⟩ := HREF.out L' h
                    have h5 := HPL.out
                    have h6 := HK.out
                    refine h4 i (by omega) ?_
                    rw [HLINE.out, HLQ.out]) HOZ5.out HBZ5.out
                · obtain ⟨d, hud⟩ : ∃ d, unhex x2.data.toList = some d := by
                    cases e : unhex x2.data.toList with
                    | none => exact absurd (.inl e) hbad
                    | some d => exact ⟨d, rfl⟩
                  obtain ⟨DD, hDD⟩ : ∃ DD : ByteArray, (⟨d.toArray⟩ : ByteArray) = DD := ⟨_, rfl⟩
                  have HU2 := Lib.hid (fun W : World => (HU W).mono (fun e w' (h : UnhOutS x2 e W w') => show e = .returned (.tuple #[.string DD, .bool true]) ∧ Below W.heap.size W w' from by
                    obtain ⟨⟨d', h1, h2, h3⟩ | ⟨h0, h1⟩, hb⟩ := h
                    · rw [hud] at h1
                      cases h1
                      rw [← hDD]
                      exact ⟨h3, hb⟩
                    · exact absurd h0 hbad))
                  have HLQ := Lib.hid (show lineQ y.data.toList = some (x1, DD) from by
                    unfold lineQ
                    rw [hlp2, if_neg (by omega), hud, ← hDD]
                    rfl)
                  clear hbad hlp2 HU hx2z hud hDD
                  go_upto_region 16 with (go_at_call 10; refine (HU2.out _).mono ?_; rintro e w5 ⟨rfl, hb5⟩)
                  have HB5 := Lib.hid (HB4.out.trans (hb5.mono hz4))
                  have HO5 := Lib.hid (own_below HO4.out hb5)
                  have HN5 := Lib.hid (own_below HN4.out hb5)
                  have hx5 := HX4.out.below hb5 HQ.out
                  have hz5 : w.heap.size ≤ w5.heap.size := HB5.out.size
                  clear hb5
                  have cf0 := hx5.cell 0
                  have cf1 := hx5.cell 1
                  have ff1 := hx5.frozen 1
                  dsimp at cf0 cf1
                  have HX5 := Lib.hid hx5
                  clear hx5
                  go_upto_region 17 with fail
                  have HX6 := Lib.hid (HX5.out.set 1 (.string DD))
                  have HB6 := Lib.hid (HB5.out.setCell (p := ⟨q, 1, none⟩) hz3 (.string DD))
                  have HO6 := Lib.hid (HO5.out.kept (only_setCell (g := q) (p := ⟨q, 1, none⟩) (only_refl w5 _) (.inl rfl) (.string DD)) HA.out)
                  have HN6 := Lib.hid (HN5.out.kept (only_setCell (g := q) (p := ⟨q, 1, none⟩) (only_refl w5 _) (.inl rfl) (.string DD)) (own_neRow HN5.out HX5.out (by decide)))
                  have hz6 : w.heap.size ≤ (w5.setCell ⟨q, 1, none⟩ (.string DD)).heap.size := HB6.out.size
                  clear cf0 cf1 ff1
                  have cf0 : (w5.setCell ⟨q, 1, none⟩ (.string DD)).cell? ⟨q, 0, none⟩ = some (.string x1) := HX6.out.cell 0
                  have cf1 : (w5.setCell ⟨q, 1, none⟩ (.string DD)).cell? ⟨q, 1, none⟩ = some (.string DD) := HX6.out.cell 1
                  generalize w5.setCell ⟨q, 1, none⟩ (.string DD) = W6 at *
                  go_wp2_with (at_builtin; refine wpList_pushT (.tmp 69) (.tmp 71) 22 w.heap.size 31 (.agg #[.string ⟨#[]⟩, .string ⟨#[]⟩]) [.string x1, .string DD] 2 32 _ i _ HO6.out rfl rfl Try.underlying22 infoFLS rfl (by omega) rfl rfl rfl rfl (by intro u hu; simp at hu; rcases hu with rfl | rfl <;> rfl) (by omega) (by omega) hz6 ?_; intro A6 c6 w6 ho6 hg6)
                  have hn6 := HN6.out.kept hg6 (own_neF HN6.out HO6.out (by decide))
                  have hb6 := HB6.out.trans (below_grown hg6 (fun j e => (HO6.out.lt j e).1) hz6)
                  go_roundw
                  case rel => exact ⟨i + 1, L ++ [(x1, DD)], some A6, c6, by omega, by rw [List.length_append, HL.out]; rfl, by rw [← HI1.out], rfl, HRDL.out.snoc (by rw [HL.out, ← HPL.out]; omega) (by rw [HL.out, HLINE.out]; exact HLQ.out), by rw [List.flatMap_append]; exact ho6, hn6, hb6⟩
                  case measure =>
                    have h1 := HI1.out
                    simp [intOf]
                    omega
          · have t2 : ((m2 : Int) == 2) = false := by simp; omega
            have t2' : ((m2 : Int) != 2) = true := by simp; omega
            go_wp2_with fail
            go_ret2
            exact RfOut.bad (fun L' h => by
              obtain ⟨h1, h2, h3, h4⟩ := HREF.out L' h
              have h5 := HPL.out
              have h6 := HK.out
              refine h4 i (by omega) ?_
              unfold lineQ
              rw [HLINE.out, lineP_not (by rw [← HSPL.out, List.length_map, HM2.out]; exact hm2)]
              rfl) HOZ3.out HBZ3.out
        · have hie : i = k := by omega
          have h6 := HK.out
          have t1 : decide ((i1 : Int) < (m : Int)) = false := by simp; omega
          have t1' : ((i1 : Int) < (m : Int)) = False := by simp; omega
          subst hie
          clear h6 hi1
          have hsF := own_slF HR.out HL.out.symm
          have hsz := HRDL.out.size (by rw [HL.out, ← HPL.out]; omega) (fun j => by rw [HPG.out, ← Lib.size_eq]; exact Nat.le_trans (hpz j) hs)
          rw [HL.out] at hsz
          have hV := specValid_any A' i c' (nthF L) wr (by omega) hsz hsF
          clear hsl hrd hr hn hb hL hsF hsz hca
          by_cases hvf : VF i (nthF L)
          · have HV2 := Lib.hid (hV.mono (fun e w' (h : VfOut _ e wr w') => show e = .returned (.bool true) ∧ Below wr.heap.size wr w' from by
              obtain ⟨b, hb, h1, h2⟩ := h
              rw [hb.2 hvf] at h1
              exact ⟨h1, h2⟩))
            have HIT := Lib.hid (HTX.out L HRDL.out (by rw [← HPL.out, HL.out, HK.out]) (by rw [HL.out]; exact HLAST.out) (by rw [HL.out]; exact hvf))
            clear hV hvf
            go_wp2_with (go_at_call 11; refine HV2.out.mono ?_; rintro e w5 ⟨rfl, hb5⟩)
            go_ret2
            have hg := RfOut.good (e := 31) (w := w) (c := c') HIT.out (by rw [HL.out]; exact own_below HR.out hb5) (HB.out.trans (hb5.mono hzr))
            rw [HL.out] at hg
            exact hg
          · have HV2 := Lib.hid (hV.mono (fun e w' (h : VfOut _ e wr w') => show e = .returned (.bool false) ∧ Below wr.heap.size wr w' from by
              obtain ⟨b, hb, h1, h2⟩ := h
              cases b with
              | true => exact absurd (hb.1 rfl) hvf
              | false => exact ⟨h1, h2⟩))
            have HIT := Lib.hid (show ∀ L', ¬ IsText s L' from fun L' h => by
              obtain ⟨h1, h2, h3, h4⟩ := HREF.out L' h
              have h5 := HPL.out
              have h6 := HK.out
              have h7 := HL.out
              have h8 := HRD.out L' L h HRDL.out (by omega)
              refine hvf ?_
              rw [← h7, h8]
              exact h.1)
            clear hV hvf
            go_upto_region 19 with (go_at_call 11; refine HV2.out.mono ?_; rintro e w5 ⟨rfl, hb5⟩)
            have hb6 := HB.out.trans (hb5.mono hzr)
            have HOZ5 := Lib.hid (own_nilE w5 31 2 w.heap.size hb6.size)
            have HBZ5 := Lib.hid (hb6.alloc hb6.size (.cells #[] 31))
            clear hb5 hb6
            go_wp2_with fail
            go_ret2
            exact RfOut.bad HIT.out HOZ5.out HBZ5.out
  · have he : x.toList.isEmpty = false := by rw [empty_toList]; simp [hx0]
    go_wp2_with fail
    go_ret2
    exact RfOut.bad (fun L h => by
      have h1 := HREF.out L h
      have h2 := HPL.out
      have h4 := HK.out
      have h3 : L.length = k := by omega
      rw [h3, HPG.out, HX.out] at h1
      exact hx0 (by rw [Lib.size_eq, h1.2.2.1]; rfl)) HOZ.out HBZ.out
end Go.Proofs.Ytigemmahnmcbdaa
