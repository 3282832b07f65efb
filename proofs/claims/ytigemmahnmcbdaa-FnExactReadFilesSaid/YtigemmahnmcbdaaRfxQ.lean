/-
  A text cut at one byte, the reference's way, and the lines of a list's text.
-/
import Derived.Test.YtigemmahnmcbdaaSplP
import Derived.Test.YtigemmahnmcbdaaXmPush
import Derived.Test.YtigemmahnmcbdaaAppR
import Derived.Test.YtigemmahnmcbdaaRfxT
namespace Go.Proofs.Ytigemmahnmcbdaa
open Go Go.ChangeShapes Go.WideShapes Go.ChangeAt Go.RowKit lib
set_option linter.unusedVariables false
set_option linter.unusedSimpArgs false
set_option maxRecDepth 100000
theorem extT {s : ByteArray} {a b : Nat} (hb : b ≤ s.size) : s.extract a b = bstr (b - a) (fun i => byteAt s (a + i)) := by
  apply ByteArray.ext
  apply Array.ext'
  rw [ByteArray.data_extract, Array.toList_extract]
  unfold bstr byteAt
  simp only [List.extract_eq_take_drop]
  apply List.ext_getElem?
  intro i
  have hl : s.data.toList.length = s.size := rfl
  by_cases h : i < b - a
  · rw [List.getElem?_take_of_lt h, List.getElem?_drop, List.getElem?_map, List.getElem?_range h]
    simp only [Option.map_some, List.getD_eq_getElem?_getD]
    rw [List.getElem?_eq_getElem (by rw [hl]; omega)]
    rfl
  · rw [List.getElem?_eq_none (by simp; omega), List.getElem?_eq_none (by simp; omega)]
theorem slT (s : ByteArray) (a b : Nat) (hab : a ≤ b) (hb : b ≤ s.size) (hs : s.size ≤ 1048576) (W : World) : (Instr.slice 9 (.string s) (some (.int .i64 (a : Int))) (some (.int .i64 (b : Int))) none).run Try.prog W = .ok (.string (bstr (b - a) (fun i => byteAt s (a + i)))) W := by
  rw [run_slice_string (P := Try.prog) (w := W) 9 s .i64 .i64 (a : Int) (b : Int) Try.underlying9 (by omega) (by omega) (by omega)]
  rw [Int.toNat_natCast, Int.toNat_natCast, extT hb]
theorem slTx (s : ByteArray) (a b : Nat) (x y : Int) (hx : x = a) (hy : y = b) (hab : a ≤ b) (hb : b ≤ s.size) (hs : s.size ≤ 1048576) (W : World) : (Instr.slice 9 (.string s) (some (.int .i64 x)) (some (.int .i64 y)) none).run Try.prog W = .ok (.string (bstr (b - a) (fun i => byteAt s (a + i)))) W := by
  rw [hx, hy]; exact slT s a b hab hb hs W
theorem slTl (s : ByteArray) (a : Nat) (ha : a ≤ s.size) (W : World) : (Instr.slice 9 (.string s) (some (.int .i64 (a : Int))) none none).run Try.prog W = .ok (.string (bstr (s.size - a) (fun i => byteAt s (a + i)))) W := by
  rw [run_slice_string_l (P := Try.prog) W 9 s Try.underlying9 .i64 (a : Int) (by omega) (by omega)]
  rw [Int.toNat_natCast, extT (Nat.le_refl _)]
theorem pieceEq (s : ByteArray) (f i : Nat) (hi : i ≤ s.size) : bstr (i - f) (fun j => byteAt s (f + j)) = ⟨((s.data.toList.take i).drop f).toArray⟩ := by
  rw [← extT hi]
  apply ByteArray.ext
  apply Array.ext'
  rw [ByteArray.data_extract, Array.toList_extract]
  simp [List.extract_eq_take_drop, List.drop_take]
theorem take_snoc_byte (s : ByteArray) (i : Nat) (hi : i < s.size) : s.data.toList.take (i + 1) = s.data.toList.take i ++ [byteAt s i] := by
  have h : i < s.data.toList.length := hi
  rw [List.take_succ_eq_append_getElem h]
  congr 2
  unfold byteAt
  rw [List.getD_eq_getElem?_getD, List.getElem?_eq_getElem h]
  rfl
theorem infoStrT : (Try.prog.info? 9).map (fun i => (i.zero, i.size, i.bytes)) = some (some (.string .empty), 1, 16) := by kernel_rfl
def txtL (o : List (List UInt8)) : List Value := o.map fun l => Value.string ⟨l.toArray⟩
set_option maxHeartbeats 4000000 in
theorem l01Split_any {w : World} {s : ByteArray} (c : UInt8) (hs : s.size ≤ 1048576) : Calls Try.prog 9 #[.string s, .int .u8 (c.toNat : Int)] w fun e w' => ∃ (A : Option Addr) (d : Nat), e = .returned (.slice A (piecesT c s).length d) ∧ w'.ownsRow w.heap.size 9 1 (.slice A (piecesT c s).length d) (piecesT c s).length ((piecesT c s).map Value.string) ∧ Below w.heap.size w w' := by
  have hb1 := (Below.refl w.heap.size w).alloc (Nat.le_refl _) (.cells #[] 9)
  have HB1 := Lib.hid hb1
  have HO1 := Lib.hid (own_nilE w 9 1 w.heap.size (Nat.le_refl _))
  clear hb1
  go_enter Try.func9, Try.ntmps9
  go_wp2_with fail
  go_loopw [5, 6, 7] (fun s5 s6 s7 wr => ∃ (i f : Nat) (o : List (List UInt8)) (A : Option Addr) (d : Nat), i ≤ s.size ∧ f ≤ i ∧ o.length ≤ i ∧ s7 = .int .i64 (i : Int) ∧ s6 = .int .i64 (f : Int) ∧ s5 = .slice A o.length d ∧ splitB c (s.data.toList.take i) = o ++ [(s.data.toList.take i).drop f] ∧ wr.ownsRow w.heap.size 9 1 (.slice A o.length d) o.length (txtL o) ∧ Below w.heap.size w wr) (fun _ _ x _ => s.size - (intOf x).toNat)
  case atStart => exact ⟨0, 0, [], _, 0, by omega, by omega, by simp, rfl, rfl, rfl, rfl, HO1.out, HB1.out⟩
  case round =>
    obtain ⟨i, f, o, A, d, hi, hf, hol, rfl, rfl, rfl, hsp, ho, hb⟩ := hrel
    have HO := Lib.hid ho
    have HB := Lib.hid hb
    have HSP := Lib.hid hsp
    have hzr : w.heap.size ≤ wr.heap.size := hb.size
    obtain ⟨L, hL⟩ : ∃ L, o.length = L := ⟨_, rfl⟩
    rw [hL] at HO hol
    have HL := Lib.hid hL
    clear ho hb hsp
    have hsl := fun W => slTx s f i (f : Int) (i : Int) rfl rfl hf hi hs W
    rw [pieceEq s f i hi] at hsl
    obtain ⟨x, hx⟩ : ∃ x : ByteArray, x = ⟨((s.data.toList.take i).drop f).toArray⟩ := ⟨_, rfl⟩
    rw [← hx] at hsl
    have HX := Lib.hid hx
    by_cases hlt : i < s.size
    · have hki : (i : Int) < (s.size : Int) := by omega
      have hsn := splitB_snoc (c := c) (x := byteAt s i) _ _ _ HSP.out
      rw [← take_snoc_byte s i hlt] at hsn
      have hg := byteAt_get s i hlt
      obtain ⟨y, hy⟩ : ∃ y, byteAt s i = y := ⟨_, rfl⟩
      have HY := Lib.hid hy
      obtain ⟨yn, hyn⟩ : ∃ yn, y.toNat = yn := ⟨_, rfl⟩
      obtain ⟨cn, hcn⟩ : ∃ cn, c.toNat = cn := ⟨_, rfl⟩
      rw [hcn]
      simp only [hy, hyn] at hg
      rw [hy] at hsn
      by_cases hc : y = c
      · have t1 : ((yn : Int) == (cn : Int)) = true := by rw [← hyn, ← hcn, hc]; simp
        rw [if_pos hc] at hsn
        have HSN := Lib.hid (show splitB c (s.data.toList.take (i + 1)) = (o ++ [(s.data.toList.take i).drop f]) ++ [(s.data.toList.take (i + 1)).drop (i + 1)] by
          rw [hsn, show (s.data.toList.take (i + 1)).drop (i + 1) = [] from List.drop_eq_nil_of_le (by rw [List.length_take]; exact Nat.min_le_left _ _)])
        clear hsn hc hx hy hcn
        rw [hL]
        go_upto_region 8 with (at_builtin; refine wpList_pushT (.tmp 20) (.tmp 25) 28 w.heap.size 9 (.string .empty) [.string x] 1 16 _ L _ HO.out rfl rfl Try.underlying28 infoStrT rfl (by omega) rfl rfl rfl rfl (by intro u hu; simp at hu; subst hu; rfl) (by omega) (by omega) hzr ?_; intro A4 c4 w4 ho4 hg4)
        have hb4 : Below w.heap.size w w4 := HB.out.trans (below_grown hg4 (fun j e => (HO.out.lt j e).1) hzr)
        have HO4 := Lib.hid ho4
        have HB4 := Lib.hid hb4
        clear ho4 hg4 hb4
        go_wp2_with fail
        go_roundw
        case rel =>
          refine ⟨i + 1, i + 1, o ++ [(s.data.toList.take i).drop f], some A4, c4, by omega, by omega, by rw [List.length_append, HL.out]; simp; omega, by go_num, by go_num, by rw [List.length_append, HL.out]; rfl, HSN.out, ?_, HB4.out⟩
          rw [List.length_append, HL.out]
          unfold txtL
          rw [List.map_append, List.map_cons, List.map_nil, ← HX.out]
          exact HO4.out
        case measure => simp [intOf]; omega
      · have t1 : ((yn : Int) == (cn : Int)) = false := by
          have : yn ≠ cn := fun e => hc (UInt8.toNat_inj.1 (by rw [hyn, hcn, e]))
          simp; omega
        rw [if_neg hc] at hsn
        have HSN := Lib.hid (show splitB c (s.data.toList.take (i + 1)) = o ++ [(s.data.toList.take (i + 1)).drop f] by
          rw [hsn, take_snoc_byte s i hlt, List.drop_append_of_le_length (by rw [List.length_take]; exact Nat.le_min.2 ⟨hf, Nat.le_trans hf hi⟩), HY.out])
        clear hsn hc hx hy hcn
        rw [hL]
        go_wp2_with fail
        go_roundw
        case rel => exact ⟨i + 1, f, o, A, d, by omega, by omega, by rw [HL.out]; omega, by go_num, rfl, by rw [HL.out], HSN.out, by rw [HL.out]; exact HO.out, HB.out⟩
        case measure => simp [intOf]; omega
    · obtain rfl : i = s.size := by omega
      have hsl2 := fun W => slTl s f hf W
      rw [pieceEq s f s.size (Nat.le_refl _)] at hsl2
      rw [← hx] at hsl2
      have htk : s.data.toList.take s.size = s.data.toList := List.take_of_length_le (Nat.le_refl _)
      have hfin := HSP.out
      rw [htk] at hfin
      rw [htk] at hx
      have hpc : piecesT c s = o.map (fun l => (⟨l.toArray⟩ : ByteArray)) ++ [x] := by
        unfold piecesT
        rw [hfin, List.map_append, List.map_cons, List.map_nil, ← hx]
      have HPC := Lib.hid hpc
      clear hfin hx hpc htk hsl
      rw [hL]
      go_wp2_with (at_builtin; refine wpList_pushT (.tmp 29) (.tmp 33) 28 w.heap.size 9 (.string .empty) [.string x] 1 16 _ L _ HO.out rfl rfl Try.underlying28 infoStrT rfl (by omega) rfl rfl rfl rfl (by intro u hu; simp at hu; subst hu; rfl) (by omega) (by omega) hzr ?_; intro A4 c4 w4 ho4 hg4)
      have hb4 : Below w.heap.size w w4 := HB.out.trans (below_grown hg4 (fun j e => (HO.out.lt j e).1) hzr)
      go_ret
      have hlen : (piecesT c s).length = L + 1 := by rw [HPC.out, List.length_append, List.length_map, HL.out]; rfl
      rw [hlen]
      refine ⟨some A4, c4, rfl, ?_, hb4⟩
      have e1 : (piecesT c s).map Value.string = txtL o ++ [.string x] := by
        rw [HPC.out, List.map_append, List.map_map]
        rfl
      rw [e1]
      exact ho4
/-! plain -/
def lineF (f : FileP) : List UInt8 := f.1.data.toList ++ 32 :: datL f.2.data.toList
theorem lineS_F (L : List FileP) (i : Nat) : (lineS (nthF L) i).data.toList = lineF (L.getD i (⟨#[]⟩, ⟨#[]⟩)) ++ [10] := by rw [lineS_list, nthF_fst, nthF_snd]; rfl
theorem lineF_no {L : List FileP} {i : Nat} (h : okF (nthF L) i) : (10 : UInt8) ∉ lineF (L.getD i (⟨#[]⟩, ⟨#[]⟩)) ∧ (32 : UInt8) ∉ (L.getD i (⟨#[]⟩, ⟨#[]⟩)).1.data.toList := by
  have h1 := h.1
  rw [nthF_fst] at h1
  refine ⟨fun e => ?_, fun e => (name_no h1 32 e).2 rfl⟩
  rcases List.mem_append.1 e with e | e
  · exact (name_no h1 10 e).1 rfl
  rcases List.mem_cons.1 e with e | e
  · exact absurd e (by decide)
  · exact (datL_no _ 10 e).1 rfl
theorem ftx_split {L : List FileP} : ∀ (n : Nat) (r : List UInt8), (∀ i, i < n → okF (nthF L) i) → splitB 10 ((ftx (nthF L) n).data.toList ++ r) = ((List.range n).map fun i => lineF (L.getD i (⟨#[]⟩, ⟨#[]⟩))) ++ splitB 10 r
  | 0, r, _ => rfl
  | n + 1, r, h => by
    have hk := h n (by omega)
    rw [ftx, ba_app, List.append_assoc, ftx_split n _ (fun i hi => h i (by omega)), lineS_F, List.append_assoc, List.singleton_append, splitB_piece _ (lineF_no hk).1, List.range_succ, List.map_append, List.append_assoc]
    rfl
/-- the pieces of a list's text -/
theorem isText_split {s : ByteArray} {L : List FileP} (h : IsText s L) : splitB 10 s.data.toList = L.map lineF ++ [[]] := by
  have h1 := ftx_split (L := L) L.length [] h.1.2
  rw [List.append_nil, h.2] at h1
  rw [h1]
  refine congr (congrArg HAppend.hAppend ?_) rfl
  refine List.ext_getElem (by simp) fun i h3 h4 => ?_
  have hi : i < L.length := by simpa using h4
  simp [List.getD_eq_getElem?_getD, hi]
def toP (p : List UInt8 × List UInt8) : FileP := (⟨p.1.toArray⟩, ⟨p.2.toArray⟩)
def lineQ (l : List UInt8) : Option FileP := (lineP l).map toP
theorem lineQ_F {L : List FileP} {i : Nat} (h : okF (nthF L) i) (hi : i < L.length) : lineQ (lineF L[i]) = some L[i] := by
  have h1 := (lineF_no h).2
  have h2 := h.2.1
  rw [nthF_snd] at h2
  have e : L.getD i (⟨#[]⟩, ⟨#[]⟩) = L[i] := by rw [List.getD_eq_getElem?_getD, List.getElem?_eq_getElem hi]; rfl
  rw [e] at h1 h2
  unfold lineQ lineF
  rw [lineP_line h1 (by rw [← Lib.size_eq]; exact h2)]
  rfl
theorem lineQ_back {l : List UInt8} {f : FileP} (h : lineQ l = some f) : l = lineF f := by
  unfold lineQ at h
  cases hp : lineP l with
  | none => rw [hp] at h; cases h
  | some p =>
    rw [hp] at h
    cases h
    exact lineP_back hp
/-- what the reference has read of the first lines -/
def RdL (P : List (List UInt8)) (L : List FileP) : Prop := (P.take L.length).map lineQ = L.map some
theorem RdL.nil (P : List (List UInt8)) : RdL P [] := rfl
theorem RdL.snoc {P : List (List UInt8)} {L : List FileP} {f : FileP} (h : RdL P L) (hk : L.length < P.length) (hf : lineQ (P.getD L.length []) = some f) : RdL P (L ++ [f]) := by
  unfold RdL at *
  rw [List.getD_eq_getElem?_getD, List.getElem?_eq_getElem hk] at hf
  rw [List.length_append, List.length_cons, List.length_nil, Nat.zero_add, List.take_succ_eq_append_getElem hk, List.map_append, h, List.map_append, List.map_cons, List.map_nil]
  simp only [Option.getD_some] at hf
  rw [hf]
  rfl
theorem RdL.lines {P : List (List UInt8)} {L : List FileP} (h : RdL P L) : P.take L.length = L.map lineF := by
  unfold RdL at h
  have hl : (P.take L.length).length = L.length := by have := congrArg List.length h; simpa using this
  refine List.ext_getElem (by simpa using hl) fun i h1 h2 => ?_
  have hi : i < L.length := by simpa using h2
  have h3 : ((P.take L.length).map lineQ)[i]'(by simpa using h1) = (L.map some)[i]'(by simpa using hi) := by simp only [h]
  rw [List.getElem_map, List.getElem_map] at h3
  rw [lineQ_back h3, List.getElem_map]
theorem joinB_lines : ∀ M : List (List UInt8), joinB 10 (M ++ [[]]) = M.flatMap fun l => l ++ [10]
  | [] => rfl
  | [p] => by simp [joinB]
  | p :: q :: r => by
    have ih := joinB_lines (q :: r)
    rw [List.cons_append] at ih
    rw [List.cons_append, List.cons_append, joinB, ih, List.flatMap_cons]
    simp
theorem ftx_flat {L : List FileP} : ∀ n, n ≤ L.length → (ftx (nthF L) n).data.toList = (L.take n).flatMap fun f => lineF f ++ [10]
  | 0, _ => rfl
  | n + 1, h => by
    rw [ftx, ba_app, ftx_flat n (by omega), lineS_F, List.take_succ_eq_append_getElem h, List.flatMap_append, List.getD_eq_getElem?_getD, List.getElem?_eq_getElem h]
    simp
/-- what the reference accepts is the list's text -/
theorem RdL.text {s : ByteArray} {L : List FileP} (h : RdL (splitB 10 s.data.toList) L) (hl : (splitB 10 s.data.toList).length = L.length + 1) (he : (splitB 10 s.data.toList).getD L.length [] = []) (hv : VF L.length (nthF L)) : IsText s L := by
  refine ⟨hv, ?_⟩
  have h1 := h.lines
  have h2 : splitB 10 s.data.toList = L.map lineF ++ [[]] := by
    rw [← h1, ← he, List.getD_eq_getElem?_getD, List.getElem?_eq_getElem (by omega)]
    rw [Option.getD_some, ← List.take_succ_eq_append_getElem (by omega), List.take_of_length_le (by omega)]
  have h3 := joinB_split 10 s.data.toList
  rw [h2, joinB_lines] at h3
  have h4 := ftx_flat (L := L) L.length (Nat.le_refl _)
  rw [List.take_length] at h4
  rw [List.flatMap_map] at h3
  apply ByteArray.ext
  apply Array.ext'
  rw [h4, h3]
/-- what a valid list's text is, as the reference meets it -/
theorem isText_ref {s : ByteArray} {L : List FileP} (h : IsText s L) : (splitB 10 s.data.toList).length = L.length + 1 ∧ L.length ≤ 16 ∧ (splitB 10 s.data.toList).getD L.length [] = [] ∧ ∀ i, i < L.length → lineQ ((splitB 10 s.data.toList).getD i []) ≠ none := by
  have h1 := isText_split h
  rw [h1]
  refine ⟨by simp, h.1.1, by simp [List.getD_eq_getElem?_getD], fun i hi => ?_⟩
  rw [List.getD_eq_getElem?_getD, List.getElem?_append_left (by simpa using hi), List.getElem?_map, List.getElem?_eq_getElem hi]
  rw [Option.map_some, Option.getD_some, lineQ_F (h.1.2 i hi) hi]
  simp
theorem isText_rd {s : ByteArray} {L M : List FileP} (h : IsText s L) (hM : RdL (splitB 10 s.data.toList) M) (hl : M.length = L.length) : M = L := by
  have h1 := isText_split h
  have h2 := hM
  unfold RdL at h2
  rw [h1, hl, List.take_append_of_le_length (by simp), List.take_of_length_le (by simp), List.map_map] at h2
  have h3 : (L.map (lineQ ∘ lineF)) = L.map some := by
    refine List.map_congr_left fun f hf => ?_
    obtain ⟨i, hi, rfl⟩ := List.mem_iff_getElem.1 hf
    exact lineQ_F (h.1.2 i hi) hi
  rw [h3] at h2
  exact ((List.map_inj_right (fun a b e => Option.some.inj e)).1 h2).symm
/-- each piece is short -/
theorem splitB_short {c : UInt8} : ∀ (l p : List UInt8), p ∈ splitB c l → p.length ≤ l.length
  | [], p, h => by
    have : p = [] := by simpa [splitB] using h
    rw [this]; simp
  | x :: r, p, h => by
    by_cases hx : x = c
    · subst hx
      rw [splitB_hit] at h
      rcases List.mem_cons.1 h with rfl | h
      · simp
      · have := splitB_short r p h
        rw [List.length_cons]; omega
    · obtain ⟨p1, q, e⟩ : ∃ p1 q, splitB c r = p1 :: q := by
        cases e : splitB c r with
        | nil => exact absurd e (splitB_ne c r)
        | cons a b => exact ⟨a, b, rfl⟩
      rw [splitB_miss hx e] at h
      rcases List.mem_cons.1 h with rfl | h
      · have := splitB_short r p1 (by rw [e]; exact List.mem_cons_self)
        simp only [List.length_cons]; omega
      · have := splitB_short r p (by rw [e]; exact List.mem_cons_of_mem _ h)
        rw [List.length_cons]; omega
end Go.Proofs.Ytigemmahnmcbdaa
