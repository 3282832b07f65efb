/-
  A problem read back: the program's numbers.
-/
import Derived.Test.YtcbiaeniagacfaaDoorRpP
import Derived.Test.YtcbiaeniagacfaaDoorPbT
import Derived.Test.YtcbiaeniagacfaaDoorShW
import Derived.Test.YtcbiaeniagacfaaDoorShelf
import Derived.Lib.AtoiErrMem
import Derived.Lib.ParseIntBTie
namespace Go.Proofs.YtcbiaeniagacfaaDoor
open Go Go.ChangeShapes Go.WideShapes Go.ChangeAt Go.RowKit Go.Joins lib
set_option linter.unusedVariables false
set_option maxRecDepth 100000
/-- what the walk knows of the listed variables -/
structure RpW (w : World) : Prop where
  tab : Lib.TabIs Tryd.prog w "internal/strconv.uint64pow10" .u64 Lib.pow10Tab
  words : w.var? Tryd.prog "loop.example/g00899/impl.problemWords" = some (wordsB.map Value.string).toArray
  syn : ∃ tp p, w.var? Tryd.prog "strconv.ErrSyntax" = some #[.iface tp p]
  rng : ∃ tp p, w.var? Tryd.prog "strconv.ErrRange" = some #[.iface tp p]
  maxl : MaxL w
theorem RpW.below {w W : World} (h : RpW w) (hb : Below w.heap.size w W) : RpW W where
  tab := tab_stays (g := 4) (by kernel_rfl) h.tab hb (Nat.le_refl _)
  words := var_stays (g := 0) (by kernel_rfl) h.words hb (Nat.le_refl _)
  syn := by
    obtain ⟨tp, p, h1⟩ := h.syn
    exact ⟨tp, p, var_stays (g := 2) (by kernel_rfl) h1 hb (Nat.le_refl _)⟩
  rng := by
    obtain ⟨tp, p, h1⟩ := h.rng
    exact ⟨tp, p, var_stays (g := 3) (by kernel_rfl) h1 hb (Nat.le_refl _)⟩
  maxl := h.maxl.below hb
theorem bw_below {w w1 : World} {e : TypeId} (h : w1 = w ∨ ∃ t, w1 = Lib.bytesWorld w e t) : Below w.heap.size w w1 := by
  rcases h with h | ⟨t, h⟩
  · rw [h]; exact Below.refl _ _
  · rw [h]; exact Lib.bytesWorld_below _ _ _
theorem decimalI (v : Int) (h0 : -9223372036854775808 ≤ v) (h1 : v ≤ 9223372036854775807) (w : World) (htab : Lib.TabIs Tryd.prog w "internal/strconv.uint64pow10" .u64 Lib.pow10Tab) :
    Calls Tryd.prog 21 #[.int .i64 v] w fun e w' => e = .returned (.string ⟨(Lib.itoa v).toArray⟩) ∧ Below w.heap.size w w' := by
  have HF := Lib.hid (Tryd.strconv_FormatInt_10 v h0 h1 w htab)
  clear htab
  go_enter Tryd.func21, Tryd.ntmps21
  go_wp2_with (go_at_call 25; refine HF.out.mono ?_; rintro e w1 ⟨rfl, k, os, rfl⟩)
  go_ret
  exact ⟨rfl, Lib.below_grow _ _ (Nat.le_refl _) _ _⟩
def rdT (p : ByteArray) : Option Int := rdI p.data.toList
def RdOut (p : ByteArray) (r : Ending) (w w' : World) : Prop := r = .returned (.tuple #[.int .i64 ((rdT p).getD 0), .bool (rdT p).isSome]) ∧ Below w.heap.size w w'
theorem RdOut.some {p : ByteArray} {v : Int} {w w' : World} (h : rdT p = some v) (hb : Below w.heap.size w w') : RdOut p (.returned (.tuple #[.int .i64 v, .bool true])) w w' := ⟨by rw [h]; rfl, hb⟩
theorem RdOut.none {p : ByteArray} {w w' : World} (h : rdT p = none) (hb : Below w.heap.size w w') : RdOut p (.returned (.tuple #[.int .i64 0, .bool false])) w w' := ⟨by rw [h]; rfl, hb⟩
theorem readDecimal_any (p : ByteArray) (hp : p.size ≤ 1048576) (w : World) (hw : RpW w) : Calls Tryd.prog 19 #[.string p] w fun r w' => RdOut p r w w' := by
  have HW := Lib.hid hw
  cases hx : Lib.parseIntB 64 p.data.toList with
  | ok v =>
    have hb := Lib.parseIntB_bounds hx
    have hb1 : -9223372036854775808 ≤ v ∧ v ≤ 9223372036854775807 := by
      have e : ((2 ^ (64 - 1) : Nat) : Int) = 9223372036854775808 := by decide
      rw [e] at hb
      omega
    have HP := Lib.hid (Tryd.strconv_ParseInt_10_at64_ok p (by omega) v hx w)
    have HD := Lib.hid (fun (W : World) (hb : Below w.heap.size w W) => decimalI v hb1.1 hb1.2 W (HW.out.below hb).tab)
    obtain ⟨F, hF⟩ : ∃ F : ByteArray, (⟨(Lib.itoa v).toArray⟩ : ByteArray) = F := ⟨_, rfl⟩
    rw [hF] at HD
    by_cases hq : Lib.itoa v = p.data.toList
    · have hcmp : (F.toList == p.toList) = true := by rw [← hF, Lib.toList_data, Lib.toList_data]; simp [hq]
      have HR := Lib.hid (show rdT p = some v from by unfold rdT rdI; rw [hx]; exact if_pos hq)
      clear hx hb hF hq hw
      go_enter Tryd.func19, Tryd.ntmps19
      go_wp2_with (first
        | (go_at_call 24; refine HP.out.mono ?_; rintro e w1 ⟨rfl, hw1⟩; have hb2 := bw_below hw1; clear hw1)
        | (go_at_call 21; refine (HD.out _ hb2).mono ?_; rintro e w2 ⟨rfl, hb3⟩))
      go_ret2
      exact RdOut.some HR.out (hb2.trans (hb3.mono hb2.size))
    · have hcmp : (F.toList == p.toList) = false := by rw [← hF, Lib.toList_data, Lib.toList_data]; simpa using hq
      have HR := Lib.hid (show rdT p = none from by unfold rdT rdI; rw [hx]; exact if_neg hq)
      clear hx hb hF hq hw
      go_enter Tryd.func19, Tryd.ntmps19
      go_wp2_with (first
        | (go_at_call 24; refine HP.out.mono ?_; rintro e w1 ⟨rfl, hw1⟩; have hb2 := bw_below hw1; clear hw1)
        | (go_at_call 21; refine (HD.out _ hb2).mono ?_; rintro e w2 ⟨rfl, hb3⟩))
      go_ret2
      exact RdOut.none HR.out (hb2.trans (hb3.mono hb2.size))
  | «syntax» =>
    obtain ⟨tp, q, hv⟩ := hw.syn
    have HP := Lib.hid (Tryd.strconv_ParseInt_10_at64_syntax_var p (by omega) hx tp q w hv)
    have HR := Lib.hid (show rdT p = none from by unfold rdT rdI; rw [hx])
    clear hx hw hv
    go_enter Tryd.func19, Tryd.ntmps19
    go_wp2_with (go_at_call 24; refine HP.out.mono ?_; rintro e w1 ⟨N, rfl, hN, hc, hb2⟩; clear hN hc)
    go_ret2
    exact RdOut.none HR.out hb2
  | range =>
    obtain ⟨tp, q, hv⟩ := hw.rng
    have HP := Lib.hid (Tryd.strconv_ParseInt_10_at64_range_var p (by omega) hx tp q w hv)
    have HR := Lib.hid (show rdT p = none from by unfold rdT rdI; rw [hx])
    generalize Lib.intSat 64 p.data.toList = sat at HP
    clear hx hw hv
    go_enter Tryd.func19, Tryd.ntmps19
    go_wp2_with (go_at_call 24; refine HP.out.mono ?_; rintro e w1 ⟨N, rfl, hN, hc, hb2⟩; clear hN hc)
    go_ret2
    exact RdOut.none HR.out hb2
theorem infoI64R : (Tryd.prog.info? 2).map (fun i => (i.zero, i.size, i.bytes)) = some (some (.int .i64 0), 1, 8) := by kernel_rfl
/-- reading numbers ended so -/
def SnOut (N : List ByteArray) (r : Ending) (w w' : World) : Prop :=
  ((∃ (L : List Int) (A : Option Addr) (c : Nat), N.map rdT = L.map some ∧ r = .returned (.tuple #[.slice A L.length c, .bool true]) ∧ Sl w' w'.heap.size A L.length (fun i => .int .i64 (L.getD i 0))) ∨ ((∃ p ∈ N, rdT p = none) ∧ r = .returned (.tuple #[.slice none 0 0, .bool false]))) ∧ Below w.heap.size w w'
theorem SnOut.good {N : List ByteArray} {w w' : World} {L : List Int} {A : Option Addr} {c : Nat} (h : N.map rdT = L.map some) (hs : Sl w' w'.heap.size A L.length (fun i => .int .i64 (L.getD i 0))) (hb : Below w.heap.size w w') : SnOut N (.returned (.tuple #[.slice A L.length c, .bool true])) w w' := ⟨.inl ⟨L, A, c, h, rfl, hs⟩, hb⟩
theorem SnOut.bad {N : List ByteArray} {w w' : World} (h : ∃ p ∈ N, rdT p = none) (hb : Below w.heap.size w w') : SnOut N (.returned (.tuple #[.slice none 0 0, .bool false])) w w' := ⟨.inr ⟨h, rfl⟩, hb⟩
theorem piece_small {c : UInt8} {s x : ByteArray} (h : x ∈ piecesT c s) : x.size ≤ s.size := by
  have key : ∀ (l p : List UInt8), p ∈ splitB c l → p.length ≤ l.length := by
    intro l
    induction l with
    | nil => intro p h; simp [splitB] at h; subst h; simp
    | cons y r ih =>
      intro p h
      by_cases hy : y = c
      · subst hy
        rw [splitB_hit] at h
        rcases List.mem_cons.1 h with rfl | h
        · simp
        · have := ih p h; simp; omega
      · obtain ⟨a, q, hs⟩ : ∃ a q, splitB c r = a :: q := by
          cases hs : splitB c r with
          | nil => exact absurd hs (splitB_ne _ _)
          | cons a q => exact ⟨a, q, rfl⟩
        rw [hs] at ih
        rw [splitB_miss hy hs] at h
        rcases List.mem_cons.1 h with rfl | h
        · have := ih a List.mem_cons_self; simp; omega
        · have := ih p (List.mem_cons_of_mem _ h); simp; omega
  unfold piecesT at h
  obtain ⟨l, hl, rfl⟩ := List.mem_map.1 h
  have := key _ l hl
  show l.toArray.size ≤ s.data.size
  rw [List.size_toArray]
  simpa using this
theorem sl_strR (w : World) (L : List ByteArray) (e : Nat) : Sl (w.alloc (.cells (L.map Value.string).toArray e)) (w.alloc (.cells (L.map Value.string).toArray e)).heap.size (some ⟨w.heap.size, 0, none⟩) L.length (fun i => .string (L.getD i ⟨#[]⟩)) := fun i hi => by
  refine ⟨w.heap.size, 0, rfl, by rw [World.size_alloc]; omega, ?_⟩
  have hr := Row.new w e (L.map Value.string).toArray
  rw [Nat.zero_add]
  refine (hr.cell i).trans ?_
  simp [hi]
def intsV (L : List Int) : List Value := L.map (Value.int .i64)
theorem sl_ints {w : World} {B e c : Nat} {A : Option Addr} {L : List Int} (h : w.ownsRow B e 1 (.slice A L.length c) L.length (intsV L)) : Sl w w.heap.size A L.length (fun i => .int .i64 (L.getD i 0)) := by
  have h1 := own_sl h
  rw [Nat.mul_one] at h1
  refine h1.congr fun i hi => ?_
  unfold intsV
  rw [List.getD_eq_getElem?_getD, List.getD_eq_getElem?_getD, List.getElem?_map, List.getElem?_eq_getElem hi]
  rfl
set_option maxHeartbeats 4000000 in
theorem splitNumbers_any {w : World} {s : ByteArray} (hs : s.size ≤ 1048576) (hw : RpW w) : Calls Tryd.prog 12 #[.string s, .string ⟨#[32]⟩] w fun r w' => SnOut (piecesT 32 s) r w w' := by
  obtain ⟨mx, hmx⟩ := hw.maxl
  have hsp := Tryd.strings_Split s ⟨#[32]⟩ mx w (by omega) hmx (Nat.le_refl 1)
  rw [piecesT_lib, piecesT_lib_len] at hsp
  have hsmall := fun x (h : x ∈ piecesT 32 s) => Nat.le_trans (piece_small h) hs
  have hlen : (piecesT 32 s).length ≤ 1048577 := by
    rw [piecesT_len]
    have := splitB_len (c := 32) s.data.toList
    have h2 : s.data.toList.length = s.size := rfl
    omega
  have hsl := sl_strR w (piecesT 32 s) 9
  have hbl := (Below.refl w.heap.size w).alloc (Nat.le_refl _) (.cells ((piecesT 32 s).map Value.string).toArray 9)
  obtain ⟨N, hN⟩ : ∃ N, piecesT 32 s = N := ⟨_, rfl⟩
  rw [hN] at hsp hsmall hlen hsl hbl ⊢
  clear hN hmx
  have HW1 := Lib.hid (hw.below hbl)
  clear hw
  generalize w.alloc (.cells (N.map Value.string).toArray 9) = W1 at *
  have HSP := Lib.hid hsp
  have HBL := Lib.hid hbl
  have HSL := Lib.hid hsl
  have HSM := Lib.hid hsmall
  have hz1 : w.heap.size ≤ W1.heap.size := hbl.size
  obtain ⟨m, hm⟩ : ∃ m, N.length = m := ⟨_, rfl⟩
  have HM := Lib.hid hm
  rw [hm] at HSP HSL hlen
  clear hsp hbl hsl hsmall hm
  go_enter Tryd.func12, Tryd.ntmps12
  go_wp2_with (go_at_call 18; refine HSP.out.mono ?_; rintro e w' ⟨rfl, hw'⟩; rw [hw']; clear hw' w')
  go_loopw [6, 15] (fun s6 s15 wr => ∃ (k : Nat) (L : List Int) (A : Option Addr) (c : Nat), k ≤ m ∧ L.length = k ∧ s15 = .int .i64 (k : Int) ∧ s6 = .slice A k c ∧ (N.take k).map rdT = L.map some ∧ wr.ownsRow W1.heap.size 2 1 (.slice A k c) k (intsV L) ∧ Below W1.heap.size W1 wr) (fun _ i _ => m - (intOf i).toNat)
  case atStart => exact ⟨0, [], none, 0, by omega, rfl, rfl, rfl, rfl, World.ownsRow_nil _ _ _ _, Below.refl _ _⟩
  case round =>
    obtain ⟨k, L, A, c, hk, hL, rfl, rfl, hrd, ho, hb⟩ := hrel
    have HB := Lib.hid hb
    have HO := Lib.hid ho
    have HRD := Lib.hid hrd
    have HL := Lib.hid hL
    have hzr : W1.heap.size ≤ wr.heap.size := hb.size
    have hWr := HW1.out.below hb
    have hslr := (HSL.out.below hb)
    clear hrd ho hb hL
    by_cases hlt : k < m
    · have hki : (k : Int) < (m : Int) := by omega
      obtain ⟨b1, o1, e1, hbl1, hc1⟩ := hslr k hlt
      simp only [Option.some.injEq, Addr.mk.injEq] at e1
      obtain ⟨rfl, rfl, _⟩ := e1
      dsimp only at hc1
      rw [Nat.zero_add] at hc1
      have hmem : N.getD k ⟨#[]⟩ ∈ N := by
        have h : k < N.length := by rw [HM.out]; exact hlt
        rw [List.getD_eq_getElem?_getD, List.getElem?_eq_getElem h]
        exact List.getElem_mem h
      have hpz := HSM.out _ hmem
      have htk : N.take (k + 1) = N.take k ++ [N.getD k ⟨#[]⟩] := by
        have h : k < N.length := by rw [HM.out]; exact hlt
        rw [List.take_succ_eq_append_getElem h, List.getD_eq_getElem?_getD, List.getElem?_eq_getElem h]
        rfl
      have HTK := Lib.hid htk
      have HMEM := Lib.hid hmem
      obtain ⟨p, hp⟩ : ∃ p, N.getD k ⟨#[]⟩ = p := ⟨_, rfl⟩
      rw [hp] at hc1 hpz HTK HMEM
      clear hp htk hmem hslr
      have hR := readDecimal_any p hpz wr hWr
      cases hv : rdT p with
      | none =>
        have HR := Lib.hid (hR.mono (fun e w' (h : RdOut p e wr w') => show e = .returned (.tuple #[.int .i64 0, .bool false]) ∧ Below wr.heap.size wr w' from by
          obtain ⟨h1, h2⟩ := h
          rw [hv] at h1
          exact ⟨h1, h2⟩))
        have HV := Lib.hid hv
        clear hR hv hWr
        go_wp2_with (go_at_call 19; refine HR.out.mono ?_; rintro e w5 ⟨rfl, hb5⟩)
        go_ret2
        exact SnOut.bad ⟨p, HMEM.out, HV.out⟩ (HBL.out.trans ((HB.out.mono hz1).trans (hb5.mono (Nat.le_trans hz1 hzr))))
      | some v =>
        have HR := Lib.hid (hR.mono (fun e w' (h : RdOut p e wr w') => show e = .returned (.tuple #[.int .i64 v, .bool true]) ∧ Below wr.heap.size wr w' from by
          obtain ⟨h1, h2⟩ := h
          rw [hv] at h1
          exact ⟨h1, h2⟩))
        have HV := Lib.hid hv
        clear hR hv hWr
        go_wp2_with (first
          | (go_at_call 19; refine HR.out.mono ?_; rintro e w5 ⟨rfl, hb5⟩; have HO5 := Lib.hid (own_below HO.out hb5); have HB5 := Lib.hid (HB.out.trans (hb5.mono hzr)); have hz5 : W1.heap.size ≤ w5.heap.size := HB5.out.size; clear hb5)
          | (at_builtin; refine wpList_push (.tmp 26) (.tmp 28) 35 W1.heap.size 2 (.int .i64 0) _ 8 _ k _ HO5.out rfl rfl Tryd.underlying35 infoI64R rfl rfl rfl rfl rfl (by omega) (by omega) hz5 ?_; intro A6 c6 w6 ho6 hb6))
        go_roundw
        case rel => exact ⟨k + 1, L ++ [v], some A6, c6, by omega, by rw [List.length_append, HL.out]; rfl, by go_num, rfl, by rw [HTK.out, List.map_append, HRD.out, List.map_append, List.map_cons, List.map_nil, HV.out]; rfl, by unfold intsV at *; rw [List.map_append]; exact ho6, HB5.out.trans hb6⟩
        case measure => simp [intOf]; omega
    · obtain rfl : k = m := by omega
      go_wp2_with fail
      go_ret2
      have hall : N.map rdT = L.map some := by
        have := HRD.out
        rwa [List.take_of_length_le (by rw [HM.out]; exact Nat.le_refl _)] at this
      have ho := HO.out
      have hl := HL.out
      subst hl
      exact SnOut.good hall (sl_ints ho) (HBL.out.trans (HB.out.mono hz1))
end Go.Proofs.YtcbiaeniagacfaaDoor
