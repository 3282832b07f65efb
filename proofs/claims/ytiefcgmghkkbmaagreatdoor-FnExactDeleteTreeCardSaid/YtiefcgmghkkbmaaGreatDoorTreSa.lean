/-
  Trees: a disk opened for a path, a file read: the reference's side.
-/
import Derived.Test.YtiefcgmghkkbmaaGreatDoorTreR
import Derived.Test.YtiefcgmghkkbmaaGreatDoorTreLk
import Derived.Test.YtiefcgmghkkbmaaGreatDoorTreOp
import Derived.Test.YtiefcgmghkkbmaaGreatDoorTreRd
import Derived.Test.YtiefcgmghkkbmaaGreatDoorTreAf
import Derived.Test.YtiefcgmghkkbmaaGreatDoorTreC2
import Derived.Test.YtiefcgmghkkbmaaGreatDoorXmPush
namespace Go.Proofs.YtiefcgmghkkbmaaGreatDoor
open Go Go.ChangeShapes Go.WideShapes Go.ChangeAt Go.RowKit lib
set_option linter.unusedVariables false
set_option linter.unusedSimpArgs false
set_option maxRecDepth 100000
theorem pieceEq (s : ByteArray) (f i : Nat) (hi : i ≤ s.size) : bstr (i - f) (fun j => byteAt s (f + j)) = ⟨((s.data.toList.take i).drop f).toArray⟩ := by
  rw [← extT hi]
  apply ByteArray.ext
  apply Array.ext'
  rw [ByteArray.data_extract, Array.toList_extract]
  simp [List.extract_eq_take_drop, List.drop_take]
theorem take_snoc_byte (s : ByteArray) (i : Nat) (hi : i < s.size) : s.data.toList.take (i + 1) = s.data.toList.take i ++ [byteAt s i] := by
  have h : i < s.data.toList.length := hi
  rw [List.take_succ_eq_append_getElem h]
  congr 2
  unfold byteAt
  rw [List.getD_eq_getElem?_getD, List.getElem?_eq_getElem h]
  rfl
def txtL (o : List (List UInt8)) : List Value := o.map fun l => Value.string ⟨l.toArray⟩
set_option maxHeartbeats 4000000 in
theorem l01Split_any {w : World} {s : ByteArray} (c : UInt8) (hs : s.size ≤ 1048576) : Calls Tryz.prog 104 #[.string s, .int .u8 (c.toNat : Int)] w fun e w' => ∃ (A : Option Addr) (d : Nat), e = .returned (.slice A (piecesT c s).length d) ∧ w'.ownsRow w.heap.size 9 1 (.slice A (piecesT c s).length d) (piecesT c s).length ((piecesT c s).map Value.string) ∧ Below w.heap.size w w' := by
  have hb1 := (Below.refl w.heap.size w).alloc (Nat.le_refl _) (.cells #[] 9)
  have HB1 := Lib.hid hb1
  have HO1 := Lib.hid (own_nilE w 9 1 w.heap.size (Nat.le_refl _))
  clear hb1
  go_enter Tryz.func104, Tryz.ntmps104
  go_wp2_with fail
  go_loopw [5, 6, 7] (fun s5 s6 s7 wr => ∃ (i f : Nat) (o : List (List UInt8)) (A : Option Addr) (d : Nat), i ≤ s.size ∧ f ≤ i ∧ o.length ≤ i ∧ s7 = .int .i64 (i : Int) ∧ s6 = .int .i64 (f : Int) ∧ s5 = .slice A o.length d ∧ splitB c (s.data.toList.take i) = o ++ [(s.data.toList.take i).drop f] ∧ wr.ownsRow w.heap.size 9 1 (.slice A o.length d) o.length (txtL o) ∧ Below w.heap.size w wr) (fun _ _ x _ => s.size - (intOf x).toNat)
  case atStart => exact ⟨0, 0, [], _, 0, by omega, by omega, by simp, rfl, rfl, rfl, rfl, HO1.out, HB1.out⟩
  case round =>
    obtain ⟨i, f, o, A, d, hi, hf, hol, rfl, rfl, rfl, hsp, ho, hb⟩ := hrel
    have HO := Lib.hid ho
    have HB := Lib.hid hb
    have HSP := Lib.hid hsp
    have hzr : w.heap.size ≤ wr.heap.size := hb.size
    obtain ⟨L, hL⟩ : ∃ L, o.length = L := ⟨_, rfl⟩
    rw [hL] at HO hol
    have HL := Lib.hid hL
    clear ho hb hsp
    have hsl := fun W => slTx s f i (f : Int) (i : Int) rfl rfl hf hi hs W
    rw [pieceEq s f i hi] at hsl
    obtain ⟨x, hx⟩ : ∃ x : ByteArray, x = ⟨((s.data.toList.take i).drop f).toArray⟩ := ⟨_, rfl⟩
    rw [← hx] at hsl
    have HX := Lib.hid hx
    by_cases hlt : i < s.size
    · have hki : (i : Int) < (s.size : Int) := by omega
      have hsn := splitB_snoc (c := c) (x := byteAt s i) _ _ _ HSP.out
      rw [← take_snoc_byte s i hlt] at hsn
      have hg := byteAt_get s i hlt
      obtain ⟨y, hy⟩ : ∃ y, byteAt s i = y := ⟨_, rfl⟩
      have HY := Lib.hid hy
      obtain ⟨yn, hyn⟩ : ∃ yn, y.toNat = yn := ⟨_, rfl⟩
      obtain ⟨cn, hcn⟩ : ∃ cn, c.toNat = cn := ⟨_, rfl⟩
      rw [hcn]
      simp only [hy, hyn] at hg
      rw [hy] at hsn
      by_cases hc : y = c
      · have t1 : ((yn : Int) == (cn : Int)) = true := by rw [← hyn, ← hcn, hc]; simp
        rw [if_pos hc] at hsn
        have HSN := Lib.hid (show splitB c (s.data.toList.take (i + 1)) = (o ++ [(s.data.toList.take i).drop f]) ++ [(s.data.toList.take (i + 1)).drop (i + 1)] by
          rw [hsn, show (s.data.toList.take (i + 1)).drop (i + 1) = [] from List.drop_eq_nil_of_le (by rw [List.length_take]; exact Nat.min_le_left _ _)])
        clear hsn hc hx hy hcn
        rw [hL]
        go_upto_region 8 with (at_builtin; refine wpList_pushT (.tmp 20) (.tmp 25) 22 w.heap.size 9 (.string .empty) [.string x] 1 16 _ L _ HO.out rfl rfl Tryz.underlying22 infoStr rfl (by omega) rfl rfl rfl rfl (by intro u hu; simp at hu; subst hu; rfl) (by omega) (by omega) hzr ?_; intro A4 c4 w4 ho4 hg4)
        have hb4 : Below w.heap.size w w4 := HB.out.trans (below_grown hg4 (fun j e => (HO.out.lt j e).1) hzr)
        have HO4 := Lib.hid ho4
        have HB4 := Lib.hid hb4
        clear ho4 hg4 hb4
        go_wp2_with fail
        go_roundw
        case rel =>
          refine ⟨i + 1, i + 1, o ++ [(s.data.toList.take i).drop f], some A4, c4, by omega, by omega, by rw [List.length_append, HL.out]; simp; omega, by go_num, by go_num, by rw [List.length_append, HL.out]; rfl, HSN.out, ?_, HB4.out⟩
          rw [List.length_append, HL.out]
          unfold txtL
          rw [List.map_append, List.map_cons, List.map_nil, ← HX.out]
          exact HO4.out
        case measure => simp [intOf]; omega
      · have t1 : ((yn : Int) == (cn : Int)) = false := by
          have : yn ≠ cn := fun e => hc (UInt8.toNat_inj.1 (by rw [hyn, hcn, e]))
          simp; omega
        rw [if_neg hc] at hsn
        have HSN := Lib.hid (show splitB c (s.data.toList.take (i + 1)) = o ++ [(s.data.toList.take (i + 1)).drop f] by
          rw [hsn, take_snoc_byte s i hlt, List.drop_append_of_le_length (by rw [List.length_take]; exact Nat.le_min.2 ⟨hf, Nat.le_trans hf hi⟩), HY.out])
        clear hsn hc hx hy hcn
        rw [hL]
        go_wp2_with fail
        go_roundw
        case rel => exact ⟨i + 1, f, o, A, d, by omega, by omega, by rw [HL.out]; omega, by go_num, rfl, by rw [HL.out], HSN.out, by rw [HL.out]; exact HO.out, HB.out⟩
        case measure => simp [intOf]; omega
    · obtain rfl : i = s.size := by omega
      have hsl2 := fun W => slTl s f hf W
      rw [pieceEq s f s.size (Nat.le_refl _)] at hsl2
      rw [← hx] at hsl2
      have htk : s.data.toList.take s.size = s.data.toList := List.take_of_length_le (Nat.le_refl _)
      have hfin := HSP.out
      rw [htk] at hfin
      rw [htk] at hx
      have hpc : piecesT c s = o.map (fun l => (⟨l.toArray⟩ : ByteArray)) ++ [x] := by
        unfold piecesT
        rw [hfin, List.map_append, List.map_cons, List.map_nil, ← hx]
      have HPC := Lib.hid hpc
      clear hfin hx hpc htk hsl
      rw [hL]
      go_wp2_with (at_builtin; refine wpList_pushT (.tmp 29) (.tmp 33) 22 w.heap.size 9 (.string .empty) [.string x] 1 16 _ L _ HO.out rfl rfl Tryz.underlying22 infoStr rfl (by omega) rfl rfl rfl rfl (by intro u hu; simp at hu; subst hu; rfl) (by omega) (by omega) hzr ?_; intro A4 c4 w4 ho4 hg4)
      have hb4 : Below w.heap.size w w4 := HB.out.trans (below_grown hg4 (fun j e => (HO.out.lt j e).1) hzr)
      go_ret
      have hlen : (piecesT c s).length = L + 1 := by rw [HPC.out, List.length_append, List.length_map, HL.out]; rfl
      rw [hlen]
      refine ⟨some A4, c4, rfl, ?_, hb4⟩
      have e1 : (piecesT c s).map Value.string = txtL o ++ [.string x] := by
        rw [HPC.out, List.map_append, List.map_map]
        rfl
      rw [e1]
      exact ho4
theorem joinB_len (c : UInt8) : ∀ L : List (List UInt8), L ≠ [] → (∀ p ∈ L, p.length ≤ 8) → (joinB c L).length + 1 ≤ L.length * 9
  | [], h, _ => absurd rfl h
  | [p], _, h => by
    have := h p List.mem_cons_self
    rw [joinB]
    simp; omega
  | p :: q :: r, _, h => by
    have h1 := h p List.mem_cons_self
    have h2 := joinB_len c (q :: r) (by simp) (fun x hx => h x (List.mem_cons_of_mem _ hx))
    rw [joinB, List.length_append, List.length_cons, List.length_cons]
    omega
theorem pathT_short {p : ByteArray} (h : (piecesT 47 p).length ≤ 4) (h2 : ∀ x ∈ piecesT 47 p, NameS x) : p.size ≤ 35 := by
  have hj := joinB_split 47 p.data.toList
  have hl := joinB_len 47 (splitB 47 p.data.toList) (splitB_ne _ _) (fun q hq => by
    have := (h2 ⟨q.toArray⟩ (by unfold piecesT; exact List.mem_map.2 ⟨q, hq, rfl⟩)).hi
    simpa [ByteArray.size] using this)
  rw [hj, ← piecesT_len] at hl
  have : p.data.toList.length = p.size := rfl
  omega
def PtOut (p : ByteArray) (w : World) (e : Ending) (w' : World) : Prop :=
  Below w.heap.size w w' ∧ ((pathT p = none ∧ ∃ v, e = .returned (.tuple #[v, .bool false])) ∨ (∃ (N : List ByteArray) (A : Option Addr) (c : Nat), pathT p = some N ∧ e = .returned (.tuple #[.slice A N.length c, .bool true]) ∧ Sl w' w'.heap.size A N.length (fun i => .string (N.getD i ⟨#[]⟩))))
theorem PtOut.no {p : ByteArray} {w w' : World} {v : Value} (hb : Below w.heap.size w w') (h : pathT p = none) : PtOut p w (.returned (.tuple #[v, .bool false])) w' := ⟨hb, .inl ⟨h, v, rfl⟩⟩
theorem sl_own {w : World} {B e c : Nat} {A : Option Addr} {N : List ByteArray} (h : w.ownsRow B e 1 (.slice A N.length c) N.length (N.map Value.string)) : Sl w w.heap.size A N.length (fun i => .string (N.getD i ⟨#[]⟩)) := by
  refine own_slR (c := c) (B := B) (e := e) ?_
  have e1 : (List.range N.length).map (fun i => Value.string (N.getD i ⟨#[]⟩)) = N.map Value.string := by
    apply List.ext_getElem
    · simp
    · intro i h1 h2
      simp at h1
      simp [List.getElem?_eq_getElem h1]
  rw [e1]
  exact h
set_option maxHeartbeats 4000000 in
theorem l18Path_any {w : World} {p : ByteArray} (hp : p.size ≤ 1048576) : Calls Tryz.prog 68 #[.string p] w (PtOut p w) := by
  have hsh := pathT_short (p := p)
  have hno := pathT_no (p := p)
  have hyes := pathT_yes (p := p)
  by_cases h35 : p.size ≤ 35
  · have t1 : decide ((p.size : Int) > 35) = false := by simp; omega
    have t1' : decide ((35 : Int) < (p.size : Int)) = false := by simp; omega
    have HSP := Lib.hid (l01Split_any (w := w) (s := p) 47 hp)
    have hsmall := fun x (h : x ∈ piecesT 47 p) => piecesT_small h
    have hlen : (piecesT 47 p).length ≤ 36 := by
      rw [piecesT_len]
      have := splitB_len (c := 47) p.data.toList
      have h2 : p.data.toList.length = p.size := rfl
      omega
    obtain ⟨N, hN⟩ : ∃ N, piecesT 47 p = N := ⟨_, rfl⟩
    rw [hN] at HSP hsmall hlen hno hyes
    obtain ⟨L, hL⟩ : ∃ L, N.length = L := ⟨_, rfl⟩
    have HL := Lib.hid hL
    have HNO := Lib.hid hno
    have HY := Lib.hid hyes
    have HSM := Lib.hid hsmall
    rw [hL] at HSP hlen
    clear hsh hno hyes hN hL hsmall
    go_enter Tryz.func68, Tryz.ntmps68
    go_upto_region 4 with (go_at_call 104; refine HSP.out.mono ?_; rintro e w2 ⟨A, d, rfl, ho, hb2⟩)
    have hsl := sl_own (N := N) (c := d) (by rw [HL.out]; exact ho)
    rw [HL.out] at hsl
    have HS := Lib.hid hsl
    have HB2 := Lib.hid hb2
    clear ho hb2 hsl
    go_wp2_with fail
    go_loopw [5] (fun s5 wr => ∃ k : Nat, k ≤ L ∧ s5 = .int .i64 (k : Int) ∧ (∀ i, i < k → NameS (N.getD i ⟨#[]⟩)) ∧ wr = w2) (fun s _ => L - (intOf s).toNat)
    case atStart => exact ⟨0, by omega, rfl, fun i hi => absurd hi (by omega), rfl⟩
    case round =>
      obtain ⟨k, hk, rfl, hj, rfl⟩ := hrel
      have HJ := Lib.hid hj
      clear hj
      by_cases hlt : k < L
      · have hki : (k : Int) < (L : Int) := by omega
        obtain ⟨ba, oa, hA, hbl, hca⟩ := HS.out k hlt
        subst hA
        dsimp only at hca
        have hkN : k < N.length := by rw [HL.out]; exact hlt
        have hx2 : N[k] = N.getD k ⟨#[]⟩ := by rw [List.getD_eq_getElem?_getD, List.getElem?_eq_getElem hkN]; rfl
        have hmem : N.getD k ⟨#[]⟩ ∈ N := by rw [← hx2]; exact List.getElem_mem hkN
        have hsz := HSM.out _ hmem
        have HMEM := Lib.hid hmem
        obtain ⟨x, hx⟩ : ∃ x, N.getD k ⟨#[]⟩ = x := ⟨_, rfl⟩
        rw [hx] at hca hsz HMEM
        have HX := Lib.hid hx
        clear hx hx2 hmem hkN
        by_cases hn : NameS x
        · have HN := Lib.hid (fun W => specIsName_any x (by omega) true ⟨fun _ => hn, fun _ => rfl⟩ W)
          have HNN := Lib.hid hn
          clear hn
          go_wp2_with (go_at_call 105; refine (HN.out _).mono ?_; rintro e w' ⟨rfl, rfl⟩)
          exact ⟨⟨k + 1, by omega, by go_num, fun j hj => by
            rcases Nat.lt_succ_iff_lt_or_eq.1 hj with h | rfl
            · exact HJ.out j h
            · rw [HX.out]; exact HNN.out, trivial⟩, by simp [intOf]; omega⟩
        · have HN := Lib.hid (fun W => specIsName_any x (by omega) false ⟨fun h => (by cases h), fun h => absurd h hn⟩ W)
          have HNN := Lib.hid (HNO.out (fun q => hn (q.2 x HMEM.out)))
          clear hn
          go_wp2_with (go_at_call 105; refine (HN.out _).mono ?_; rintro e w' ⟨rfl, rfl⟩)
          go_ret2
          exact PtOut.no HB2.out HNN.out
      · obtain rfl : k = L := by omega
        have hall : ∀ x ∈ N, NameS x := fun x hx => by
          obtain ⟨i, hi, rfl⟩ := List.getElem_of_mem hx
          have := HJ.out i (by rw [← HL.out]; exact hi)
          rw [List.getD_eq_getElem?_getD, List.getElem?_eq_getElem hi] at this
          exact this
        by_cases h4 : k ≤ 4
        · have t4 : decide ((k : Int) ≤ 4) = true := by simp; omega
          have HPT := Lib.hid (HY.out (by rw [HL.out]; exact h4) hall)
          clear hall
          go_wp2_with fail
          go_ret2
          have hLL := HL.out
          subst hLL
          exact ⟨HB2.out, .inr ⟨N, A, d, HPT.out, rfl, HS.out⟩⟩
        · have t4 : decide ((k : Int) ≤ 4) = false := by simp; omega
          have HPT := Lib.hid (HNO.out (fun q => h4 (by rw [← HL.out]; exact q.1)))
          clear hall
          go_wp2_with fail
          go_ret2
          exact PtOut.no HB2.out HPT.out
  · have t1 : decide ((p.size : Int) > 35) = true := by simp; omega
    have t1' : decide ((35 : Int) < (p.size : Int)) = true := by simp; omega
    have HNN := Lib.hid (hno (fun q => h35 (hsh q.1 q.2)))
    clear hsh hno hyes
    go_enter Tryz.func68, Tryz.ntmps68
    go_wp2_with fail
    go_ret2
    exact PtOut.no (Below.refl _ _) HNN.out
end Go.Proofs.YtiefcgmghkkbmaaGreatDoor
