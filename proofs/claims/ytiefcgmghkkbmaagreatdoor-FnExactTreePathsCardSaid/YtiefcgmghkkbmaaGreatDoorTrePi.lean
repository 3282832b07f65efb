/-
  Trees: TreePaths, both sides.
-/
import Derived.Test.YtiefcgmghkkbmaaGreatDoorTrePa
import Derived.Test.YtiefcgmghkkbmaaGreatDoorStrX
namespace Go.Proofs.YtiefcgmghkkbmaaGreatDoor
open Go Go.ChangeShapes Go.WideShapes Go.ChangeAt Go.RowKit lib
set_option linter.unusedVariables false
set_option linter.unusedSimpArgs false
set_option maxRecDepth 100000
theorem tWalk_it_len {n : Nat} {u : Nat → Nat → UInt8} (hn : n ≤ 128) : (tWalk n u).it.length ≤ 128 := by
  unfold tWalk
  split
  · rw [tMarks_it]
    have hsee : (TS0.see 0).sn 0 = true := rfl
    have h := (tPre_le (n := n) (u := u) (g := 256) (path := ⟨#[]⟩) (t := 4) hsee 8).1.itl
    have hu0 : (TS0.see 0).uns n ≤ 128 := by have := unsF_le (TS0.see 0).sn n; show unsF _ n ≤ 128; omega
    have e2 : (TS0.see 0).it.length = 0 := rfl
    have e3 : tDir n u 256 ⟨#[]⟩ 0 4 (TS0.see 0) = tPre n u 256 ⟨#[]⟩ 0 4 (TS0.see 0) 8 := rfl
    rw [e3]
    omega
  · show ([] : List TIt).length ≤ 128
    simp
theorem fileP_len (L : List TIt) : (fileP L).length ≤ L.length := by
  unfold fileP
  rw [List.length_map]
  exact List.length_filter_le _ _
theorem fileP_yes {L : List TIt} {k : Nat} (hk : k < L.length) (h : L[k].fol = false) : fileP (L.take (k + 1)) = fileP (L.take k) ++ [L[k].path] := by
  rw [List.take_succ_eq_append_getElem hk, fileP_app]
  unfold fileP
  simp [h]
theorem fileP_no {L : List TIt} {k : Nat} (hk : k < L.length) (h : L[k].fol = true) : fileP (L.take (k + 1)) = fileP (L.take k) := by
  rw [List.take_succ_eq_append_getElem hk, fileP_app]
  have : fileP [L[k]] = [] := by unfold fileP; simp [h]
  rw [this, List.append_nil]
theorem flat8 : ∀ (L : List TIt) (k j : Nat) (hk : k < L.length), j < 8 → (L.flatMap encTI)[k * 8 + j]? = (encTI L[k])[j]?
  | [], k, j, hk, _ => absurd hk (Nat.not_lt_zero _)
  | x :: L, 0, j, hk, hj => by
    rw [List.flatMap_cons, Nat.zero_mul, Nat.zero_add, List.getElem?_append_left (by simpa [encTI] using hj)]
    rfl
  | x :: L, k + 1, j, hk, hj => by
    have e : (encTI x).length = 8 := rfl
    rw [List.flatMap_cons, List.getElem?_append_right (by omega), e, show (k + 1) * 8 + j - 8 = k * 8 + j by omega, flat8 L k j (by simpa using hk) hj]
    rfl
theorem rng_textsP (L : List ByteArray) : ((List.range L.length).map fun (i : Nat) => Value.string (L.getD i ⟨#[]⟩)) = L.map Value.string := by
  apply List.ext_getElem
  · simp
  · intro i h1 h2
    simp at h1
    simp [List.getElem?_eq_getElem h1]
/-- the paths of all files of a disk -/
noncomputable def pthT (n : Nat) (s : Nat → ByteArray) : List ByteArray := if tCode n s = 0 then putL [] (aP (fun i => byteAt (s i)) ⟨#[]⟩ 0) else []
theorem pthT_ok {n : Nat} {s : Nat → ByteArray} (h : tCode n s = 0) : pthT n s = putL [] (aP (fun i => byteAt (s i)) ⟨#[]⟩ 0) := if_pos h
theorem pthT_bad {n : Nat} {s : Nat → ByteArray} (h : tCode n s ≠ 0) : pthT n s = [] := if_neg h
def PsOut (n : Nat) (s : Nat → ByteArray) (w : World) (e : Ending) (w' : World) : Prop :=
  ∃ (A : Option Addr) (c : Nat), e = .returned (.tuple #[.slice A (pthT n s).length c, .int .i64 (tCode n s : Nat)]) ∧ w'.ownsRow w.heap.size 9 1 (.slice A (pthT n s).length c) (pthT n s).length ((List.range (pthT n s).length).map fun (i : Nat) => Value.string ((pthT n s).getD i ⟨#[]⟩)) ∧ Below w.heap.size w w'
theorem PsOut.bad {n : Nat} {s : Nat → ByteArray} {w w' : World} {A : Option Addr} {c k : Nat} (hk : tCode n s = k) (h0 : k ≠ 0) (ho : w'.ownsRow w.heap.size 9 1 (.slice A 0 c) 0 []) (hb : Below w.heap.size w w') : PsOut n s w (.returned (.tuple #[.slice A 0 c, .int .i64 (k : Int)])) w' := by
  unfold PsOut
  rw [rng_textsP, pthT_bad (by rw [hk]; exact h0), hk]
  exact ⟨A, c, rfl, ho, hb⟩
theorem PsOut.good {n : Nat} {s : Nat → ByteArray} {w w' : World} {A : Option Addr} {c m : Nat} {u : Nat → Nat → UInt8} (hu : (fun i => byteAt (s i)) = u) (hk : tCode n s = 0) (hm : m = (putL [] (aP u ⟨#[]⟩ 0)).length) (ho : StrR w.heap.size w' A c (putL [] (aP u ⟨#[]⟩ 0))) (hb : Below w.heap.size w w') : PsOut n s w (.returned (.tuple #[.slice A m c, .int .i64 0])) w' := by
  subst hm hu
  unfold PsOut
  rw [rng_textsP, pthT_ok hk, hk]
  exact ⟨A, c, rfl, ho, hb⟩
theorem aP_len {n : Nat} {u : Nat → Nat → UInt8} (hn : n ≤ 128) (h : (tWalk n u).pr.length = 0) : (aP u ⟨#[]⟩ 0).length ≤ 128 := by
  rw [← tWalk_paths hn (List.eq_nil_of_length_eq_zero h)]
  have := fileP_len (tWalk n u).it
  have := tWalk_it_len (u := u) hn
  omega
theorem pthT_len (n : Nat) (s : Nat → ByteArray) : (pthT n s).length ≤ 1048576 := by
  by_cases h : tCode n s = 0
  · obtain ⟨⟨h4, hn, _⟩, hw⟩ := tCode_zero h
    rw [pthT_ok h, putL_len]
    have := aP_len hn hw
    simp only [List.length_nil]
    omega
  · rw [pthT_bad h]
    simp
/-- texts sorted -/
theorem sortTp_any {w w0 : World} {c : Nat} {A : Option Addr} {L : List ByteArray} (h : StrR w0.heap.size w A c L) (hb : Below w0.heap.size w0 w) (hn : L.length ≤ 1048576) :
    Calls Tryz.prog 49 #[.slice A L.length c] w fun e w' => e = .returned (.tuple #[]) ∧ StrR w0.heap.size w' A c (putL [] L) ∧ Below w0.heap.size w0 w' := by
  have h1 := sortStr_any h.key hb (by rw [List.length_map]; exact hn)
  rw [List.length_map] at h1
  refine h1.mono ?_
  rintro e w' ⟨he, hk, hb'⟩
  rw [sort_put] at hk
  exact ⟨he, hk.text, hb'⟩
set_option maxHeartbeats 8000000 in
theorem implTreePaths_any {w : World} {A : Option Addr} {n c : Nat} {s : Nat → ByteArray} (hm : n ≤ 1048576) (hs : Sl w w.heap.size A n (fun i => .string (s i))) :
    Calls Tryz.prog 19 #[.slice A n c] w (PsOut n s w) := by
  have hac := access_any (c := c) hm hs
  by_cases h0 : tCode n s = 0
  · obtain ⟨⟨h4, hn, _⟩, hwk⟩ := tCode_zero h0
    have HC0 := Lib.hid h0
    rw [h0] at hac
    have HAC := Lib.hid (hac.mono (R' := fun e w' => ∃ gp gr bl cp, e = .returned (.tuple #[.pointer (some ⟨gp, 0, none⟩), .int .i64 0]) ∧ TreD w' gp gr n w.heap.size bl cp (fun i => byteAt (s i)) ∧ Below w.heap.size w w') (fun e w' h => by
      obtain ⟨hb, ⟨h1, _⟩ | ⟨_, gp, gr, bl, cp, h1, h2⟩⟩ := h
      · exact absurd rfl h1
      · exact ⟨gp, gr, bl, cp, h1, h2, hb⟩))
    obtain ⟨u, hu⟩ : ∃ u : Nat → Nat → UInt8, (fun i => byteAt (s i)) = u := ⟨_, rfl⟩
    rw [hu] at HAC hwk
    have HU := Lib.hid hu
    have hit := tWalk_it_len (u := u) hn
    have hpa := tWalk_paths hn (List.eq_nil_of_length_eq_zero hwk)
    obtain ⟨I, hI⟩ : ∃ I, (tWalk n u).it = I := ⟨_, rfl⟩
    rw [hI] at hit hpa
    have HI := Lib.hid hI
    have HPA := Lib.hid hpa
    obtain ⟨m, hm'⟩ : ∃ m, I.length = m := ⟨_, rfl⟩
    rw [hm'] at hit
    have HM := Lib.hid hm'
    clear hac h0 hs hu hwk hpa hI hm'
    go_enter Tryz.func19, Tryz.ntmps19
    go_upto_region 5 with (go_at_call 48; refine HAC.out.mono ?_; rintro e w2 ⟨gp, gr, bl, cp, rfl, ht, hb2⟩)
    have HB2 := Lib.hid hb2
    have HWK := Lib.hid (walk_any ht h4 hn)
    clear ht hb2
    go_upto_region 6 with (go_at_call 41; refine HWK.out.mono ?_; rintro e w3 ⟨q, mm, R, rfl, hw3, _, hit3, hb3⟩; obtain ⟨A1, c1, A2, c2, r1, _, r3⟩ := hw3.rows; rw [hit3, HI.out, HM.out] at r1 r3; have k3 := r1.cell 3; have HO3 := Lib.hid r3; have HB3 := Lib.hid (HB2.out.trans (hb3.mono HB2.out.size)); clear r1 r3 hw3 hit3 hb3)
    go_loopw [6, 23] (fun s6 s23 wr => ∃ (k c' : Nat) (A' : Option Addr), k ≤ m ∧ s23 = .int .i64 (k : Int) ∧ s6 = .slice A' (fileP (I.take k)).length c' ∧ StrR w3.heap.size wr A' c' (fileP (I.take k)) ∧ Below w3.heap.size w3 wr) (fun _ s _ => m - (intOf s).toNat)
    case atStart => exact ⟨0, 0, none, by omega, rfl, rfl, World.ownsRow_nil _ _ _ _, Below.refl _ _⟩
    case round =>
      obtain ⟨k, c', A', hk, rfl, rfl, hr, hb⟩ := hrel
      have HR := Lib.hid hr
      have HB := Lib.hid hb
      clear hr hb
      by_cases hlt : k < m
      · have hki : (k : Int) < (m : Int) := by omega
        have hkI : k < I.length := by rw [HM.out]; exact hlt
        obtain ⟨x, hx⟩ : ∃ x, I[k] = x := ⟨_, rfl⟩
        have hsl := own_sl (own_below HO3.out HB.out)
        obtain ⟨ga, oa, hA, hx1, hx2⟩ := hsl (k * 8) (by omega)
        clear hx1 hx2
        subst hA
        have hcell : ∀ j, j < 8 → wr.cell? ⟨ga, oa + k * 8 + j, none⟩ = (encTI x)[j]? := fun j hj => by
          rw [Nat.add_assoc]
          obtain ⟨ga', oa', e, _, hc⟩ := hsl (k * 8 + j) (by omega)
          simp only [Option.some.injEq, Addr.mk.injEq, and_true] at e
          obtain ⟨rfl, rfl⟩ := e
          rw [hc]
          have h8 := flat8 I k j hkI hj
          rw [hx] at h8
          have hj8 : j < (encTI x).length := hj
          show some ((I.flatMap encTI).getD (k * 8 + j) undef) = _
          rw [List.getD_eq_getElem?_getD, h8, List.getElem?_eq_getElem hj8]
          rfl
        obtain ⟨x0, x1, x2, x3, x4, x5, x6, x7⟩ := x
        have q0 := hcell 0 (by omega)
        have q1 := hcell 1 (by omega)
        have q2 := hcell 2 (by omega)
        have q3 := hcell 3 (by omega)
        have q4 := hcell 4 (by omega)
        have q5 := hcell 5 (by omega)
        have q6 := hcell 6 (by omega)
        have q7 := hcell 7 (by omega)
        simp only [encTI, List.getElem?_cons_zero, List.getElem?_cons_succ, Nat.add_zero] at q0 q1 q2 q3 q4 q5 q6 q7
        have hR1 := Rw.new wr 76 #[.int .i64 (x0 : Int), .int .i64 (x1 : Int), .string x2, .string x3, .bool x4, .bool x5, .string x6, .bool x7]
        have hb1 := (Below.refl wr.heap.size wr).alloc (Nat.le_refl _) (.cells #[.int .i64 (x0 : Int), .int .i64 (x1 : Int), .string x2, .string x3, .bool x4, .bool x5, .string x6, .bool x7] 76)
        have HR1 := Lib.hid hR1
        have HB1 := Lib.hid hb1
        have hfl := fileP_len (I.take k)
        rw [List.length_take] at hfl
        obtain ⟨cur, hcur⟩ : ∃ l, fileP (I.take k) = l := ⟨_, rfl⟩
        have hyes : x4 = false → fileP (I.take (k + 1)) = cur ++ [x3] := fun e => by
          have h := fileP_yes hkI (by rw [hx]; exact e)
          rw [hx, hcur] at h
          exact h
        have hno : x4 = true → fileP (I.take (k + 1)) = cur := fun e => by
          have h := fileP_no hkI (by rw [hx]; exact e)
          rw [hcur] at h
          exact h
        rw [hcur] at hfl HR ⊢
        obtain ⟨mc, hmc⟩ : ∃ m, cur.length = m := ⟨_, rfl⟩
        have HMC := Lib.hid hmc
        rw [hmc] at hfl ⊢
        have HYES := Lib.hid hyes
        have HNO := Lib.hid hno
        have hzr : w3.heap.size ≤ wr.heap.size := HB.out.size
        clear hsl hcell hR1 hb1 hx hcur hmc hyes hno
        go_upto_region 8 with fail
        obtain ⟨bx, hbx⟩ : ∃ bx, wr.heap.size = bx := ⟨_, rfl⟩
        have hbz : bx < (wr.alloc (.cells #[.int .i64 (x0 : Int), .int .i64 (x1 : Int), .string x2, .string x3, .bool x4, .bool x5, .string x6, .bool x7] 76)).heap.size := by rw [World.size_alloc]; omega
        have HRW := Lib.hid (show StrR w3.heap.size (wr.alloc (.cells #[.int .i64 (x0 : Int), .int .i64 (x1 : Int), .string x2, .string x3, .bool x4, .bool x5, .string x6, .bool x7] 76)) A' c' cur from own_below HR.out HB1.out)
        have HBW := Lib.hid (HB.out.trans (HB1.out.mono hzr))
        rw [hbx] at HR1
        rw [hbx]
        clear HR HB HB1 q0 q1 q2 q3 q4 q5 q6 q7
        generalize wr.alloc (.cells #[.int .i64 (x0 : Int), .int .i64 (x1 : Int), .string x2, .string x3, .bool x4, .bool x5, .string x6, .bool x7] 76) = W1 at *
        have q3 := HR1.out.cell 3
        have q4 := HR1.out.cell 4
        have hz1 : w3.heap.size ≤ W1.heap.size := HBW.out.size
        cases x4 with
        | true =>
          have HE := Lib.hid (HNO.out rfl)
          go_wp2_with fail
          go_roundw
          case rel => exact ⟨k + 1, c', A', by omega, by go_num, by rw [HE.out, HMC.out], by rw [HE.out]; exact HRW.out, HBW.out⟩
          case measure => simp [intOf]; omega
        | false =>
          have HE := Lib.hid (HYES.out rfl)
          have HR3 := Lib.hid (show W1.ownsRow w3.heap.size 9 1 (.slice A' mc c') mc (cur.map Value.string) by have := HRW.out; unfold StrR at this; rwa [HMC.out] at this)
          go_upto_region 10 with (at_builtin; refine wpList_pushT (.tmp 30) (.tmp 33) 22 w3.heap.size 9 (.string .empty) [.string x3] 1 16 _ mc _ HR3.out rfl rfl Tryz.underlying22 infoStr rfl (by omega) rfl rfl rfl rfl (by intro u hu; simp at hu; subst hu; rfl) (by omega) (by omega) hz1 ?_; intro A4 c4 w4 ho4 hg4)
          have hb4 : Below w3.heap.size w3 w4 := HBW.out.trans (below_grown hg4 (fun j e => (HR3.out.lt j e).1) hz1)
          have HB4 := Lib.hid hb4
          have HO4 := Lib.hid ho4
          clear hb4 hg4 ho4 q3 q4
          go_wp2_with fail
          go_roundw
          case rel =>
            refine ⟨k + 1, c4, some A4, by omega, by go_num, by rw [HE.out, List.length_append, HMC.out]; rfl, ?_, HB4.out⟩
            rw [HE.out]
            unfold StrR
            rw [List.length_append, List.map_append, HMC.out]
            exact HO4.out
          case measure => simp [intOf]; omega
      · obtain rfl : k = m := by omega
        have e1 : fileP (I.take k) = aP u ⟨#[]⟩ 0 := by rw [List.take_of_length_le (by rw [HM.out]; exact Nat.le_refl _), HPA.out]
        rw [e1] at HR ⊢
        have hle : (aP u ⟨#[]⟩ 0).length ≤ 128 := by
          rw [← HPA.out]
          have := fileP_len I
          have := HM.out
          omega
        have HSO := Lib.hid (sortTp_any (w0 := w3) HR.out HB.out (by omega))
        have hpl := putL_len [] (aP u ⟨#[]⟩ 0)
        obtain ⟨m8, hm8⟩ : ∃ m, (aP u ⟨#[]⟩ 0).length = m := ⟨_, rfl⟩
        rw [hm8] at HSO hpl ⊢
        have HPL := Lib.hid hpl
        clear hle hm8 hpl e1
        go_wp2_with (go_at_call 49; refine HSO.out.mono ?_; rintro e w7 ⟨rfl, hs7, hb7⟩)
        go_ret2
        exact PsOut.good HU.out HC0.out (by have := HPL.out; simp at this; omega) (own_base hs7 HB3.out.size) (HB3.out.trans (hb7.mono HB3.out.size))
  · have HAC := Lib.hid (hac.mono (R' := fun e w' => e = .returned (.tuple #[.pointer none, .int .i64 (tCode n s : Int)]) ∧ Below w.heap.size w w') (fun e w' h => by
      obtain ⟨hb, ⟨_, h1⟩ | ⟨h1, _⟩⟩ := h
      · exact ⟨h1, hb⟩
      · exact absurd h1 h0))
    obtain ⟨k, hk⟩ : ∃ k, tCode n s = k := ⟨_, rfl⟩
    have HK := Lib.hid hk
    rw [hk] at HAC h0
    have t1 : ((k : Int) != 0) = true := by simp; omega
    clear hac hs hk
    go_enter Tryz.func19, Tryz.ntmps19
    go_wp2_with (go_at_call 48; refine HAC.out.mono ?_; rintro e w2 ⟨rfl, hb2⟩)
    go_ret2
    exact PsOut.bad HK.out h0 (World.ownsRow_nil _ _ _ _) hb2
set_option maxHeartbeats 8000000 in
theorem specTreePaths_any {w : World} {A : Option Addr} {n c : Nat} {s : Nat → ByteArray} (hm : n ≤ 1048576) (hs : Sl w w.heap.size A n (fun i => .string (s i))) :
    Calls Tryz.prog 18 #[.slice A n c] w (PsOut n s w) := by
  have hop := sopen_any (c := c) hm hs
  by_cases h0 : tCode n s = 0
  · obtain ⟨⟨h4, hn, h32⟩, hwk⟩ := tCode_zero h0
    have HC0 := Lib.hid h0
    rw [h0] at hop
    have HAK := Lib.hid (hop.mono (R' := fun e w' => ∃ (p : Nat) (A : Option Addr) (c : Nat), e = .returned (.tuple #[.pointer (some ⟨p, 0, none⟩), .int .i64 0]) ∧ Row w' p 40 #[.slice A n c] ∧ w'.ownsRow w.heap.size 9 1 (.slice A n c) n ((List.range n).map fun (i : Nat) => Value.string (s i)) ∧ Below w.heap.size w w') (fun e w' h => by
      obtain ⟨hb, ⟨h, _⟩ | ⟨_, q, A, c, h1, h2, h3⟩⟩ := h
      · exact absurd rfl h
      · exact ⟨q, A, c, h1, h2, h3, hb⟩))
    obtain ⟨u, hu⟩ : ∃ u : Nat → Nat → UInt8, (fun i => byteAt (s i)) = u := ⟨_, rfl⟩
    rw [hu] at hwk
    have hdn := (dsnd_of hn (List.eq_nil_of_length_eq_zero hwk)).2
    have hal := aP_len hn hwk
    have HUU := Lib.hid hu
    have hui : ∀ i, u i = byteAt (s i) := fun i => by rw [← hu]
    have HALL := Lib.hid (fun (W : World) (q c2 gl cl B : Nat) (A2 : Option Addr) (hW : SpR W q n A2 c2 s) (hr : TxR B W gl cl []) (hB : B ≤ W.heap.size) => l18All_any hui hn h32 257 W 0 ⟨#[]⟩ gl cl B [] hW (by omega) hdn (by omega) (by show 0 + 10 * 257 ≤ 10000; omega) hr hB (by simp only [List.length_nil]; omega))
    obtain ⟨m, hm'⟩ : ∃ m, (putL [] (aP u ⟨#[]⟩ 0)).length = m := ⟨_, rfl⟩
    rw [hm'] at HALL
    have HM := Lib.hid hm'
    clear hop h0 hs hu hwk hdn hal hui h32 hm'
    go_enter Tryz.func18, Tryz.ntmps18
    go_upto_region 4 with (go_at_call 46; refine HAK.out.mono ?_; rintro e w2 ⟨q, A2, c2, rfl, hr, ho, hb2⟩)
    have hb3 := (Below.refl w2.heap.size w2).alloc (Nat.le_refl _) (.cells #[] 9)
    have HT := Lib.hid ((show SpR w2 q n A2 c2 s from ⟨hr, own_slR ho⟩).below hb3)
    have HB3 := Lib.hid (hb2.trans (hb3.mono hb2.size))
    have HE := Lib.hid (show TxR w.heap.size (w2.alloc (.cells #[] 9)) w2.heap.size 0 [] from own_nilE w2 9 1 w.heap.size hb2.size)
    have HCA := Lib.hid (HALL.out _ _ _ _ _ _ _ HT.out HE.out HB3.out.size)
    clear hr ho hb2 hb3
    go_wp2_with (go_at_call 47; refine HCA.out.mono ?_; rintro e w3 ⟨g3, c3, rfl, hr3, hb3⟩)
    go_ret2
    exact PsOut.good HUU.out HC0.out HM.out.symm hr3 (HB3.out.trans (hb3.mono HB3.out.size))
  · have HAK := Lib.hid (hop.mono (R' := fun e w' => e = .returned (.tuple #[.pointer none, .int .i64 (tCode n s : Nat)]) ∧ Below w.heap.size w w') (fun e w' h => by
      obtain ⟨hb, ⟨_, h⟩ | ⟨h, _⟩⟩ := h
      · exact ⟨h, hb⟩
      · exact absurd h h0))
    obtain ⟨k, hk⟩ : ∃ k, tCode n s = k := ⟨_, rfl⟩
    have HK := Lib.hid hk
    rw [hk] at HAK h0
    have t1 : ((k : Int) != 0) = true := by simp; omega
    clear hop hs hk
    go_enter Tryz.func18, Tryz.ntmps18
    go_wp2_with (go_at_call 46; refine HAK.out.mono ?_; rintro e w2 ⟨rfl, hb2⟩)
    go_ret2
    exact PsOut.bad HK.out h0 (own_nilE w2 _ _ _ hb2.size) (hb2.alloc hb2.size _)
end Go.Proofs.YtiefcgmghkkbmaaGreatDoor
