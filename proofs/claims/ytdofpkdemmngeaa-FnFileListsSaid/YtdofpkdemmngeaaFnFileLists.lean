/-
  Joined files contain all files of both lists, changed files are those that differ, files are restored from their text: for all bytes that the lists are drawn from. Conditions: none.
-/
import Derived.Test.YtdofpkdemmngeaaRows
import Derived.Test.YtdofpkdemmngeaaFlA
import Derived.Deep.CutBlock
namespace Go.Proofs.Ytdofpkdemmngeaa.fnFileLists
open Go Go.ChangeShapes Go.WideShapes Go.ChangeAt Go.RowKit lib
set_option linter.unusedVariables false
set_option maxRecDepth 100000
theorem own_slR2 {w : World} {B e n c : Nat} {A : Option Addr} {g : Nat → Value} (h : w.ownsRow B e 2 (.slice A n c) n ((List.range (n * 2)).map g)) : Sl w w.heap.size A (n * 2) g := by
  have h1 := own_sl h
  exact h1.congr fun i hi => by simp [hi]
theorem big {n : Nat} {s : Nat → ByteArray} (h : ∀ i, i < n * 2 → (s i).size ≤ 1000) : ∀ i, i < n * 2 → (s i).size ≤ 1048576 := fun i hi => Nat.le_trans (h i hi) (by omega)
theorem putS_lenP {x : ByteArray} : ∀ L : List ByteArray, (putS x L).length = L.length + 1
  | [] => rfl
  | y :: r => by
    rw [putS]
    split
    · rw [List.length_cons, List.length_cons, putS_lenP r]
    · simp
theorem missS_lenP {gs : List (ByteArray × ByteArray)} : ∀ (fs : List (ByteArray × ByteArray)) (out : List ByteArray), (missS gs fs out).length ≤ fs.length + out.length
  | [], out => by simp [missS]
  | f :: r, out => by
    by_cases h : f ∉ gs ∧ f.1 ∉ out
    · rw [missS_put h.1 h.2]
      have := missS_lenP (gs := gs) r (putS f.1 out)
      have h2 : (putS f.1 out).length = out.length + 1 := putS_lenP out
      rw [List.length_cons]
      omega
    · rw [missS_pass (by
        by_cases h1 : f ∈ gs
        · exact .inl h1
        · exact .inr (Classical.byContradiction fun h2 => h ⟨h1, h2⟩))]
      have := missS_lenP (gs := gs) r out
      rw [List.length_cons]
      omega
theorem nth_fil {n : Nat} {s : Nat → ByteArray} (j : Nat) (hj : j < n * 2) : nthF (filS s n) j = s j := by
  have hi : j / 2 < n := by omega
  have e : (filS s n).getD (j / 2) (⟨#[]⟩, ⟨#[]⟩) = (s (j / 2 * 2), s (j / 2 * 2 + 1)) := by
    rw [List.getD_eq_getElem?_getD]
    simp [filS, hi]
  unfold nthF
  rw [e]
  split
  · show s (j / 2 * 2) = s j
    rw [show j / 2 * 2 = j by omega]
  · show s (j / 2 * 2 + 1) = s j
    rw [show j / 2 * 2 + 1 = j by omega]
theorem str_sl {w : World} {B c : Nat} {A : Option Addr} {L : List ByteArray} (h : StrR B w A c L) : Sl w w.heap.size A L.length (fun i => .string (L.getD i ⟨#[]⟩)) := by
  have h1 := own_sl h
  rw [Nat.mul_one] at h1
  refine h1.congr fun i hi => ?_
  rw [List.getD_eq_getElem?_getD, List.getD_eq_getElem?_getD, List.getElem?_map, List.getElem?_eq_getElem hi]
  rfl
/-- a valid list's text, read back -/
theorem read_back {n : Nat} {s : Nat → ByteArray} (h : VF n s) (W : World) : Calls Try.prog 13 #[.string (ftx s n)] W fun e w' => ∃ A c, e = .returned (.tuple #[.slice A n c, .bool true]) ∧ Sl w' w'.heap.size A (n * 2) (fun i => .string (s i)) ∧ Below W.heap.size W w' := by
  have hz : (ftx s n).size ≤ 1048576 := by
    have h1 := ftx_size (s := s) n h.2
    have h2 := h.1
    omega
  refine ((callsIn_wide (n := 4)).1 (implReadFiles_in 4 (by omega) (ftx s n) hz W)).mono fun e w' hr => ?_
  obtain ⟨A, c, h1, h2, h3⟩ := RfOut.is (isText_of h) hr
  rw [filS_len] at h1 h2
  exact ⟨A, c, h1, (own_slR2 h2).congr fun i hi => by rw [nth_fil i hi], h3⟩
set_option maxHeartbeats 8000000 in
theorem law (A : Option Addr) (n c : Nat) (u : Nat → UInt8) (w : World) (hn : n ≤ 1048576) (hu : Sl w w.heap.size A n (fun i => .int .u8 ((u i).toNat : Int))) :
    Calls Try.prog 3 #[.slice A n c] w fun e w' => e = .returned (.bool true) ∧ Below w.heap.size w w' := by
  have HL := Lib.hid (b10Long_any A n c w false (by simp; omega))
  have HJ := Lib.hid (fun (W : World) (hb : Below w.heap.size w W) => drawJoin_any (w := W) (c := c) u ((hu.below hb).more hb.size) hn)
  have HC := Lib.hid (fun (W : World) (hb : Below w.heap.size w W) => drawChanged_any (w := W) (c := c) u ((hu.below hb).more hb.size) hn)
  clear hu
  go_enter Try.func3, Try.ntmps3
  go_upto_region 4 with (first
    | (go_at_call 4; refine HL.out.mono ?_; rintro e w' ⟨rfl, hw'⟩; rw [hw']; clear hw' w')
    | (go_at_call 5; refine (HJ.out _ (Below.refl _ _)).mono ?_; rintro e w1 ⟨na, nb, ca, cb, Aa, Ab, sa, sb, hna, hnb, hza, hzb, rfl, hsa, hsb, hb1⟩))
  have HSA := Lib.hid hsa
  have HSB := Lib.hid hsb
  have HB1 := Lib.hid hb1
  have HJ1 := Lib.hid (implJoin_any Aa Ab na nb ca cb sa sb w1 (by omega) (by omega) (big hza) (big hzb) hsa hsb)
  clear hsa hsb hb1
  go_upto_region 5 with (go_at_call 6; refine HJ1.out.mono ?_; rintro e w2 ⟨Ax, cx, rfl, hox, hb2⟩)
  have HSX := Lib.hid (own_slR2 hox)
  have HB2 := Lib.hid (HB1.out.trans (hb2.mono HB1.out.size))
  have HSA2 := Lib.hid ((HSA.out.below hb2).more hb2.size)
  have HSB2 := Lib.hid ((HSB.out.below hb2).more hb2.size)
  clear hox hb2
  have HF := Lib.hid (show jCode na nb sa sb = 0 → VF (jLen na nb sa sb) (fAt (joinL (filS sa na) (filS sb nb))) ∧ VF na sa ∧ jLen na nb sa sb ≤ 16 ∧ (chgL (fAt (joinL (filS sa na) (filS sb nb))) (jLen na nb sa sb) sa na).length + na = jLen na nb sa sb from fun hj => by
    have hjv := jCode_zero hj
    have e : jLen na nb sa sb = (joinL (filS sa na) (filS sb nb)).length := by unfold jLen; rw [if_pos hj]
    refine ⟨join_vf hj, hjv.1.1, by rw [e]; exact hjv.2.2, ?_⟩
    rw [e]
    exact chg_len hjv.2.1.1 hjv.1.1 (fun f hf => (hjv.2.1.2 f).2 (.inl hf)))
  have HJ2 := Lib.hid ((implJoin_any Ab Aa nb na cb ca sb sa w2 (by omega) (by omega) (big hzb) (big hza) HSB2.out HSA2.out).mono (fun e w' (h : JOut nb na sb sa e w2 w') => show ∃ Ay cy, e = .returned (.tuple #[.slice Ay (jLen na nb sa sb) cy, .int .i64 (jCode na nb sa sb)]) ∧ Sl w' w'.heap.size Ay (jLen na nb sa sb * 2) (fun i => .string (fAt (joinL (filS sa na) (filS sb nb)) i)) ∧ Below w2.heap.size w2 w' from by
    obtain ⟨Ay, cy, h1, h2, h3⟩ := h
    rw [jCode_comm nb na sb sa, jLen_comm nb na sb sa] at h1
    rw [jLen_comm nb na sb sa, joinL_comm] at h2
    exact ⟨Ay, cy, h1, own_slR2 h2, h3⟩))
  clear HJ1
  generalize fAt (joinL (filS sa na) (filS sb nb)) = f at *
  generalize jLen na nb sa sb = J at *
  generalize jCode na nb sa sb = CD at *
  go_upto_if 33 with fail
  go_cut [] (fun wx => Below w.heap.size w wx)
  case first =>
    by_cases hj : CD = 0
    · obtain ⟨hvx, hva, hl16, hlen⟩ := HF.out hj
      subst hj
      have hxz : ∀ i, i < J * 2 → (f i).size ≤ 1048576 := fun i hi => by
        have hok := hvx.2 (i / 2) (by omega)
        rcases Nat.mod_two_eq_zero_or_one i with e | e
        · have := hok.1.hi
          rw [show i / 2 * 2 = i by omega] at this
          omega
        · have := hok.2.1
          rw [show i / 2 * 2 + 1 = i by omega] at this
          omega
      obtain ⟨Lc, hLc⟩ : ∃ Lc, (chgL f J sa na).length = Lc := ⟨_, rfl⟩
      have HCH := Lib.hid (fun (W : World) (hx : Sl W W.heap.size Ax (J * 2) (fun i => .string (f i))) (ha : Sl W W.heap.size Aa (na * 2) (fun i => .string (sa i))) => (implChanged_ok Ax Aa J na cx ca f sa W (by omega) (by omega) hxz (big hza) hx ha hvx hva).mono (fun e w' (h : ∃ A' c', e = .returned (.tuple #[.slice A' (chgL f J sa na).length c', .bool true]) ∧ StrR W.heap.size w' A' c' (chgL f J sa na) ∧ Below W.heap.size W w') => show ∃ A' c', e = .returned (.tuple #[.slice A' Lc c', .bool true]) ∧ Below W.heap.size W w' from by
        obtain ⟨A', c', h1, _, h3⟩ := h
        rw [hLc] at h1
        exact ⟨A', c', h1, h3⟩))
      rw [hLc] at hlen
      have hw : IntKind.i64.wrap ((J : Int) - (na : Int)) = (Lc : Int) := by rw [IntKind.wrap_i64]; omega
      have hw' : (J : Int) - (na : Int) = (Lc : Int) := by omega
      have HV := Lib.hid (fun (W : World) (hx : Sl W W.heap.size Ax (J * 2) (fun i => .string (f i))) => (specValidF_any Ax J cx f W (by omega) hxz hx).mono (fun e w' (h : VfOut (VF J f) e W w') => show e = .returned (.bool true) ∧ Below W.heap.size W w' from by
        obtain ⟨b, hb, h1, h2⟩ := h
        rw [hb.2 hvx] at h1
        exact ⟨h1, h2⟩))
      have hsame : sameB J J f f = true := sameB_eq rfl
      clear hLc hvx hva hlen
      go_wp2_with (first
        | (go_at_call 6; refine HJ2.out.mono ?_; rintro e w3 ⟨Ay, cy, rfl, hsy, hb3⟩; have hsx3 := (HSX.out.below hb3).more hb3.size; have hsa3 := (HSA2.out.below hb3).more hb3.size; have hB3 := HB2.out.trans (hb3.mono HB2.out.size))
        | (go_at_call 7; refine (specSameFiles_any Ax Ay J J cx cy f f w3 (by omega) (by omega) hsx3 hsy).mono ?_; rw [hsame]; rintro e w4 ⟨rfl, hb4⟩; have hsx4 := (hsx3.below hb4).more hb4.size; have hsa4 := (hsa3.below hb4).more hb4.size; have hB4 := hB3.trans (hb4.mono hB3.size))
        | (go_at_call 8; refine (HV.out w4 hsx4).mono ?_; rintro e w5 ⟨rfl, hb5⟩; have hsx5 := (hsx4.below hb5).more hb5.size; have hsa5 := (hsa4.below hb5).more hb5.size; have hB5 := hB4.trans (hb5.mono hB4.size))
        | (go_at_call 9; refine (HCH.out w5 hsx5 hsa5).mono ?_; rintro e w6 ⟨A6, c6, rfl, hb6⟩; have hB6 := hB5.trans (hb6.mono hB5.size)))
      go_meet
      exact hB6
    · have t1 : (CD == 0) = false := by simpa using hj
      go_wp2_with fail
      go_meet
      exact HB2.out
  case rest =>
    clear HF HJ2 HSX HSA2 HSB2 HSA HSB HB1 HB2 hza hzb
    go_upto_region 13 with (go_at_call 10; refine (HC.out _ hcut).mono ?_; rintro e w3 ⟨nc, nd, cc, cd, Ac, Ad, sc, sd, hnc, hnd, hzc, hzd, rfl, hsc, hsd, hb3⟩)
    have HSC := Lib.hid hsc
    have HSD := Lib.hid hsd
    have HB3 := Lib.hid (hcut.trans (hb3.mono hcut.size))
    clear hsc hsd hb3
    have hsc := HSC.out
    have hsd := HSD.out
    have hB := HB3.out
    have hcz := big hzc
    have hdz := big hzd
    clear HSC HSD HB3 hzc hzd
    have HV0 := Lib.hid (fun (W : World) (hx : Sl W W.heap.size Ac (nc * 2) (fun i => .string (sc i))) => specValidF_any Ac nc cc sc W (by omega) hcz hx)
    have HT0 := Lib.hid (fun (W : World) (hx : Sl W W.heap.size Ac (nc * 2) (fun i => .string (sc i))) => implFilesText_any Ac nc cc sc W (by omega) hcz hx)
    by_cases hvc : VF nc sc
    · have HV := Lib.hid (fun (W : World) (hx : Sl W W.heap.size Ac (nc * 2) (fun i => .string (sc i))) => (HV0.out W hx).mono (fun e w' (h : VfOut (VF nc sc) e W w') => show e = .returned (.bool true) ∧ Below W.heap.size W w' from by
        obtain ⟨b, hb, h1, h2⟩ := h
        rw [hb.2 hvc] at h1
        exact ⟨h1, h2⟩))
      have hft := ft_text hvc
      have HR := Lib.hid (read_back hvc)
      have HT := HT0
      rw [hft] at HT
      generalize ftx sc nc = TX at *
      have HS2 := Lib.hid (fun (X Y : Value) (W : World) (Ak : Option Addr) (ck : Nat) (hX : X = .slice Ak nc ck) (hY : Y = .slice Ac nc cc) (hk : Sl W W.heap.size Ak (nc * 2) (fun i => .string (sc i))) (hx : Sl W W.heap.size Ac (nc * 2) (fun i => .string (sc i))) => show Calls Try.prog 7 #[X, Y] W fun e w' => e = .returned (.bool true) ∧ Below W.heap.size W w' from by
        rw [hX, hY]
        have h := specSameFiles_any Ak Ac nc nc ck cc sc sc W (by omega) (by omega) hk hx
        rw [sameB_eq rfl] at h
        exact h)
      clear hft HT0 HV0
      by_cases hvd : VF nd sd
      · obtain ⟨L, hL⟩ : ∃ L, chgL sc nc sd nd = L := ⟨_, rfl⟩
        have hL2 : chgL sd nd sc nc = L := by rw [chg_comm]; exact hL
        obtain ⟨Lc, hLc⟩ : ∃ Lc, L.length = Lc := ⟨_, rfl⟩
        have HC1 := Lib.hid (fun (X Y : Value) (W : World) (hX : X = .slice Ac nc cc) (hY : Y = .slice Ad nd cd) (hx : Sl W W.heap.size Ac (nc * 2) (fun i => .string (sc i))) (hy : Sl W W.heap.size Ad (nd * 2) (fun i => .string (sd i))) => show Calls Try.prog 9 #[X, Y] W fun e w' => ∃ A' c', e = .returned (.tuple #[.slice A' Lc c', .bool true]) ∧ Sl w' w'.heap.size A' Lc (fun i => .string (L.getD i ⟨#[]⟩)) ∧ Below W.heap.size W w' from by rw [hX, hY]; exact (implChanged_ok Ac Ad nc nd cc cd sc sd W (by omega) (by omega) hcz hdz hx hy hvc hvd).mono (fun e w' (h : ∃ A' c', e = .returned (.tuple #[.slice A' (chgL sc nc sd nd).length c', .bool true]) ∧ StrR W.heap.size w' A' c' (chgL sc nc sd nd) ∧ Below W.heap.size W w') => show ∃ A' c', e = .returned (.tuple #[.slice A' Lc c', .bool true]) ∧ Sl w' w'.heap.size A' Lc (fun i => .string (L.getD i ⟨#[]⟩)) ∧ Below W.heap.size W w' from by
          obtain ⟨A', c', h1, h2, h3⟩ := h
          have h4 := str_sl h2
          rw [hL, hLc] at h1 h4
          exact ⟨A', c', h1, h4, h3⟩))
        have HC2 := Lib.hid (fun (X Y : Value) (W : World) (hX : X = .slice Ad nd cd) (hY : Y = .slice Ac nc cc) (hx : Sl W W.heap.size Ac (nc * 2) (fun i => .string (sc i))) (hy : Sl W W.heap.size Ad (nd * 2) (fun i => .string (sd i))) => show Calls Try.prog 9 #[X, Y] W fun e w' => ∃ A' c', e = .returned (.tuple #[.slice A' Lc c', .bool true]) ∧ Sl w' w'.heap.size A' Lc (fun i => .string (L.getD i ⟨#[]⟩)) ∧ Below W.heap.size W w' from by rw [hX, hY]; exact (implChanged_ok Ad Ac nd nc cd cc sd sc W (by omega) (by omega) hdz hcz hy hx hvd hvc).mono (fun e w' (h : ∃ A' c', e = .returned (.tuple #[.slice A' (chgL sd nd sc nc).length c', .bool true]) ∧ StrR W.heap.size w' A' c' (chgL sd nd sc nc) ∧ Below W.heap.size W w') => show ∃ A' c', e = .returned (.tuple #[.slice A' Lc c', .bool true]) ∧ Sl w' w'.heap.size A' Lc (fun i => .string (L.getD i ⟨#[]⟩)) ∧ Below W.heap.size W w' from by
          obtain ⟨A', c', h1, h2, h3⟩ := h
          have h4 := str_sl h2
          rw [hL2, hLc] at h1 h4
          exact ⟨A', c', h1, h4, h3⟩))
        have hL16 : Lc ≤ 1048576 := by
          have h1 := missS_lenP (gs := filS sd nd) (filS sc nc) []
          have h2 := missS_lenP (gs := filS sc nc) (filS sd nd) (missS (filS sd nd) (filS sc nc) [])
          rw [filS_len] at h1 h2
          have e : (chgL sc nc sd nd).length = Lc := by rw [hL]; exact hLc
          unfold chgL at e
          rw [List.length_nil] at h1
          omega
        by_cases hE : filS sc nc = filS sd nd
        · have hl0 : Lc = 0 := by rw [← hLc, ← hL, (chg_nil hvc hvd).2 hE]; rfl
          have t1 : ((Lc : Int) == 0) = true := by rw [hl0]; rfl
          have HSM := Lib.hid (fun (X Y : Value) (W : World) (hX : X = .slice Ac nc cc) (hY : Y = .slice Ad nd cd) (hx : Sl W W.heap.size Ac (nc * 2) (fun i => .string (sc i))) (hy : Sl W W.heap.size Ad (nd * 2) (fun i => .string (sd i))) => show Calls Try.prog 7 #[X, Y] W fun e w' => e = .returned (.bool true) ∧ Below W.heap.size W w' from by
            rw [hX, hY]
            have h := specSameFiles_any Ac Ad nc nd cc cd sc sd W (by omega) (by omega) hx hy
            rw [sameB_eq hE] at h
            exact h)
          clear hL hL2 hLc hE hvc hvd
          clear hl0
          go_wp2_with (first
        | (go_at_call 9; refine (HC1.out _ _ _ (by with_reducible rfl) (by with_reducible rfl) hsc hsd).mono ?_; rintro e wn ⟨Ap, cp, rfl, hp, hb⟩; have hsc := (hsc.below hb).more hb.size; have hsd := (hsd.below hb).more hb.size; have hB := hB.trans (hb.mono hB.size))
        | (go_at_call 9; refine (HC2.out _ _ _ (by with_reducible rfl) (by with_reducible rfl) hsc hsd).mono ?_; rintro e wn ⟨Aq, cq, rfl, hq, hb⟩; have hp := (hp.below hb).more hb.size; have hsc := (hsc.below hb).more hb.size; have hsd := (hsd.below hb).more hb.size; have hB := hB.trans (hb.mono hB.size))
        | (go_at_call 11; refine (b10Texts_same Ap Aq Lc cp cq (fun i => L.getD i ⟨#[]⟩) _ hL16 hp hq).mono ?_; rintro e wn ⟨rfl, hb⟩; have hsc := (hsc.below hb).more hb.size; have hsd := (hsd.below hb).more hb.size; have hB := hB.trans (hb.mono hB.size))
        | (go_at_call 7; refine (HSM.out _ _ _ (by with_reducible rfl) (by with_reducible rfl) hsc hsd).mono ?_; rintro e wn ⟨rfl, hb⟩; have hsc := (hsc.below hb).more hb.size; have hsd := (hsd.below hb).more hb.size; have hB := hB.trans (hb.mono hB.size))
        | (go_at_call 8; refine (HV.out _ hsc).mono ?_; rintro e wn ⟨rfl, hb⟩; have hsc := (hsc.below hb).more hb.size; have hsd := (hsd.below hb).more hb.size; have hB := hB.trans (hb.mono hB.size))
        | (go_at_call 12; refine (HT.out _ hsc).mono ?_; rintro e wn ⟨rfl, hb⟩; have hsc := (hsc.below hb).more hb.size; have hsd := (hsd.below hb).more hb.size; have hB := hB.trans (hb.mono hB.size))
        | (go_at_call 13; refine (HR.out _).mono ?_; rintro e wn ⟨Ak, ck, rfl, hk, hb⟩; have hsc := (hsc.below hb).more hb.size; have hsd := (hsd.below hb).more hb.size; have hB := hB.trans (hb.mono hB.size))
        | (go_at_call 7; refine (HS2.out _ _ _ Ak ck (by with_reducible rfl) (by with_reducible rfl) hk hsc).mono ?_; rintro e wn ⟨rfl, hb⟩; have hsc := (hsc.below hb).more hb.size; have hsd := (hsd.below hb).more hb.size; have hB := hB.trans (hb.mono hB.size)))
          go_ret
          exact ⟨rfl, hB⟩
        · have hl0 : Lc ≠ 0 := fun e => hE ((chg_nil hvc hvd).1 (by rw [hL]; exact List.eq_nil_of_length_eq_zero (hLc.trans e)))
          have t1 : ((Lc : Int) == 0) = false := by simp; omega
          have HSM := Lib.hid (fun (X Y : Value) (W : World) (hX : X = .slice Ac nc cc) (hY : Y = .slice Ad nd cd) (hx : Sl W W.heap.size Ac (nc * 2) (fun i => .string (sc i))) (hy : Sl W W.heap.size Ad (nd * 2) (fun i => .string (sd i))) => show Calls Try.prog 7 #[X, Y] W fun e w' => e = .returned (.bool false) ∧ Below W.heap.size W w' from by
            rw [hX, hY]
            have h := specSameFiles_any Ac Ad nc nd cc cd sc sd W (by omega) (by omega) hx hy
            rw [sameB_ne hE] at h
            exact h)
          clear hL hL2 hLc hE hvc hvd
          go_wp2_with (first
        | (go_at_call 9; refine (HC1.out _ _ _ (by with_reducible rfl) (by with_reducible rfl) hsc hsd).mono ?_; rintro e wn ⟨Ap, cp, rfl, hp, hb⟩; have hsc := (hsc.below hb).more hb.size; have hsd := (hsd.below hb).more hb.size; have hB := hB.trans (hb.mono hB.size))
        | (go_at_call 9; refine (HC2.out _ _ _ (by with_reducible rfl) (by with_reducible rfl) hsc hsd).mono ?_; rintro e wn ⟨Aq, cq, rfl, hq, hb⟩; have hp := (hp.below hb).more hb.size; have hsc := (hsc.below hb).more hb.size; have hsd := (hsd.below hb).more hb.size; have hB := hB.trans (hb.mono hB.size))
        | (go_at_call 11; refine (b10Texts_same Ap Aq Lc cp cq (fun i => L.getD i ⟨#[]⟩) _ hL16 hp hq).mono ?_; rintro e wn ⟨rfl, hb⟩; have hsc := (hsc.below hb).more hb.size; have hsd := (hsd.below hb).more hb.size; have hB := hB.trans (hb.mono hB.size))
        | (go_at_call 7; refine (HSM.out _ _ _ (by with_reducible rfl) (by with_reducible rfl) hsc hsd).mono ?_; rintro e wn ⟨rfl, hb⟩; have hsc := (hsc.below hb).more hb.size; have hsd := (hsd.below hb).more hb.size; have hB := hB.trans (hb.mono hB.size))
        | (go_at_call 8; refine (HV.out _ hsc).mono ?_; rintro e wn ⟨rfl, hb⟩; have hsc := (hsc.below hb).more hb.size; have hsd := (hsd.below hb).more hb.size; have hB := hB.trans (hb.mono hB.size))
        | (go_at_call 12; refine (HT.out _ hsc).mono ?_; rintro e wn ⟨rfl, hb⟩; have hsc := (hsc.below hb).more hb.size; have hsd := (hsd.below hb).more hb.size; have hB := hB.trans (hb.mono hB.size))
        | (go_at_call 13; refine (HR.out _).mono ?_; rintro e wn ⟨Ak, ck, rfl, hk, hb⟩; have hsc := (hsc.below hb).more hb.size; have hsd := (hsd.below hb).more hb.size; have hB := hB.trans (hb.mono hB.size))
        | (go_at_call 7; refine (HS2.out _ _ _ Ak ck (by with_reducible rfl) (by with_reducible rfl) hk hsc).mono ?_; rintro e wn ⟨rfl, hb⟩; have hsc := (hsc.below hb).more hb.size; have hsd := (hsd.below hb).more hb.size; have hB := hB.trans (hb.mono hB.size)))
          go_ret
          exact ⟨rfl, hB⟩
      · have HC1 := Lib.hid (fun (X Y : Value) (W : World) (hX : X = .slice Ac nc cc) (hY : Y = .slice Ad nd cd) (hx : Sl W W.heap.size Ac (nc * 2) (fun i => .string (sc i))) (hy : Sl W W.heap.size Ad (nd * 2) (fun i => .string (sd i))) => show Calls Try.prog 9 #[X, Y] W fun e w' => e = .returned (.tuple #[.slice none 0 0, .bool false]) ∧ Below W.heap.size W w' from by rw [hX, hY]; exact implChanged_bad Ac Ad nc nd cc cd sc sd W (by omega) (by omega) hcz hdz hx hy (fun h => hvd h.2))
        have HC2 := Lib.hid (fun (X Y : Value) (W : World) (hX : X = .slice Ad nd cd) (hY : Y = .slice Ac nc cc) (hx : Sl W W.heap.size Ac (nc * 2) (fun i => .string (sc i))) (hy : Sl W W.heap.size Ad (nd * 2) (fun i => .string (sd i))) => show Calls Try.prog 9 #[X, Y] W fun e w' => e = .returned (.tuple #[.slice none 0 0, .bool false]) ∧ Below W.heap.size W w' from by rw [hX, hY]; exact implChanged_bad Ad Ac nd nc cd cc sd sc W (by omega) (by omega) hdz hcz hy hx (fun h => hvd h.1))
        clear hvc hvd
        go_wp2_with (first
        | (go_at_call 9; refine (HC1.out _ _ _ (by with_reducible rfl) (by with_reducible rfl) hsc hsd).mono ?_; rintro e wn ⟨rfl, hb⟩; have hsc := (hsc.below hb).more hb.size; have hsd := (hsd.below hb).more hb.size; have hB := hB.trans (hb.mono hB.size))
        | (go_at_call 9; refine (HC2.out _ _ _ (by with_reducible rfl) (by with_reducible rfl) hsc hsd).mono ?_; rintro e wn ⟨rfl, hb⟩; have hsc := (hsc.below hb).more hb.size; have hsd := (hsd.below hb).more hb.size; have hB := hB.trans (hb.mono hB.size))
        | (go_at_call 11; refine (b10Texts_same none none 0 0 0 (fun _ => ⟨#[]⟩) _ (by omega) Sl.nil Sl.nil).mono ?_; rintro e wn ⟨rfl, hb⟩; have hsc := (hsc.below hb).more hb.size; have hsd := (hsd.below hb).more hb.size; have hB := hB.trans (hb.mono hB.size))
        | (go_at_call 8; refine (HV.out _ hsc).mono ?_; rintro e wn ⟨rfl, hb⟩; have hsc := (hsc.below hb).more hb.size; have hsd := (hsd.below hb).more hb.size; have hB := hB.trans (hb.mono hB.size))
        | (go_at_call 12; refine (HT.out _ hsc).mono ?_; rintro e wn ⟨rfl, hb⟩; have hsc := (hsc.below hb).more hb.size; have hsd := (hsd.below hb).more hb.size; have hB := hB.trans (hb.mono hB.size))
        | (go_at_call 13; refine (HR.out _).mono ?_; rintro e wn ⟨Ak, ck, rfl, hk, hb⟩; have hsc := (hsc.below hb).more hb.size; have hsd := (hsd.below hb).more hb.size; have hB := hB.trans (hb.mono hB.size))
        | (go_at_call 7; refine (HS2.out _ _ _ Ak ck (by with_reducible rfl) (by with_reducible rfl) hk hsc).mono ?_; rintro e wn ⟨rfl, hb⟩; have hsc := (hsc.below hb).more hb.size; have hsd := (hsd.below hb).more hb.size; have hB := hB.trans (hb.mono hB.size)))
        go_ret
        exact ⟨rfl, hB⟩
    · have HV := Lib.hid (fun (W : World) (hx : Sl W W.heap.size Ac (nc * 2) (fun i => .string (sc i))) => (HV0.out W hx).mono (fun e w' (h : VfOut (VF nc sc) e W w') => show e = .returned (.bool false) ∧ Below W.heap.size W w' from by
        obtain ⟨b, hb, h1, h2⟩ := h
        cases b with
        | true => exact absurd (hb.1 rfl) hvc
        | false => exact ⟨h1, h2⟩))
      have hft := ft_none hvc
      have HT := HT0
      rw [hft] at HT
      have HC1 := Lib.hid (fun (X Y : Value) (W : World) (hX : X = .slice Ac nc cc) (hY : Y = .slice Ad nd cd) (hx : Sl W W.heap.size Ac (nc * 2) (fun i => .string (sc i))) (hy : Sl W W.heap.size Ad (nd * 2) (fun i => .string (sd i))) => show Calls Try.prog 9 #[X, Y] W fun e w' => e = .returned (.tuple #[.slice none 0 0, .bool false]) ∧ Below W.heap.size W w' from by rw [hX, hY]; exact implChanged_bad Ac Ad nc nd cc cd sc sd W (by omega) (by omega) hcz hdz hx hy (fun h => hvc h.1))
      have HC2 := Lib.hid (fun (X Y : Value) (W : World) (hX : X = .slice Ad nd cd) (hY : Y = .slice Ac nc cc) (hx : Sl W W.heap.size Ac (nc * 2) (fun i => .string (sc i))) (hy : Sl W W.heap.size Ad (nd * 2) (fun i => .string (sd i))) => show Calls Try.prog 9 #[X, Y] W fun e w' => e = .returned (.tuple #[.slice none 0 0, .bool false]) ∧ Below W.heap.size W w' from by rw [hX, hY]; exact implChanged_bad Ad Ac nd nc cd cc sd sc W (by omega) (by omega) hdz hcz hy hx (fun h => hvc h.2))
      clear hvc hft HT0 HV0
      go_wp2_with (first
        | (go_at_call 9; refine (HC1.out _ _ _ (by with_reducible rfl) (by with_reducible rfl) hsc hsd).mono ?_; rintro e wn ⟨rfl, hb⟩; have hsc := (hsc.below hb).more hb.size; have hsd := (hsd.below hb).more hb.size; have hB := hB.trans (hb.mono hB.size))
        | (go_at_call 9; refine (HC2.out _ _ _ (by with_reducible rfl) (by with_reducible rfl) hsc hsd).mono ?_; rintro e wn ⟨rfl, hb⟩; have hsc := (hsc.below hb).more hb.size; have hsd := (hsd.below hb).more hb.size; have hB := hB.trans (hb.mono hB.size))
        | (go_at_call 11; refine (b10Texts_same none none 0 0 0 (fun _ => ⟨#[]⟩) _ (by omega) Sl.nil Sl.nil).mono ?_; rintro e wn ⟨rfl, hb⟩; have hsc := (hsc.below hb).more hb.size; have hsd := (hsd.below hb).more hb.size; have hB := hB.trans (hb.mono hB.size))
        | (go_at_call 8; refine (HV.out _ hsc).mono ?_; rintro e wn ⟨rfl, hb⟩; have hsc := (hsc.below hb).more hb.size; have hsd := (hsd.below hb).more hb.size; have hB := hB.trans (hb.mono hB.size))
        | (go_at_call 12; refine (HT.out _ hsc).mono ?_; rintro e wn ⟨rfl, hb⟩; have hsc := (hsc.below hb).more hb.size; have hsd := (hsd.below hb).more hb.size; have hB := hB.trans (hb.mono hB.size)))
      go_ret
      exact ⟨rfl, hB⟩
theorem law_big (A : Option Addr) (n c : Nat) (w : World) (h : 1048576 < n) :
    Calls Try.prog 3 #[.slice A n c] w fun e w' => e = .returned (.bool true) ∧ Below w.heap.size w w' := by
  have HL := Lib.hid (b10Long_any A n c w true (by simp; omega))
  go_enter Try.func3, Try.ntmps3
  go_wp2_with (go_at_call 4; refine HL.out.mono ?_; rintro e w' ⟨rfl, hw'⟩; rw [hw']; clear hw' w')
  go_ret
  exact ⟨rfl, Below.refl _ _⟩
theorem walk (H : Type) (enc : TypeId × Value → H) (W : World) (base : Nat) (args : Array Value) (ds : List (DataW H)) (p : List MemPlace)
    (hval : ∀ (j : Nat) t v, Try.f3.params[j]? = some t → args[j]? = some v → Value.okWide Try.prog W .any base t v)
    (hA : DataW.TrodAll enc Try.prog W 0 (fun _ => true) true Try.f3.params.toList args.toList ds p) :
    Calls Try.prog 3 args W fun e W' => e = .returned (.bool true) ∧ Below W.heap.size W W' := by
  rw [Try.params3] at hA hval
  obtain ⟨v0, vs0, d0, ds0, p0, q0, hargs, rfl, rfl, h0, r0⟩ := trodAll_cons hA
  obtain ⟨rfl, rfl, rfl⟩ := trodAll_nil r0
  obtain rfl : args = #[v0] := by cases args; simp_all
  obtain ⟨A, n, c, z, rfl, g1, g2, hs, hm⟩ := open_sl_int Try.underlying22 Try.underlying5 (by kernel_rfl) (hval 0 22 v0 rfl rfl) h0
  have hu : Sl W W.heap.size A n (fun i => .int .u8 (((UInt8.ofNat (z i).toNat).toNat : Nat) : Int)) := hs.congr fun i hi => by
    have := hm i hi
    have h2 : IntKind.u8.min ≤ z i ∧ z i ≤ IntKind.u8.max := by simpa [Lit.wf] using this
    have e1 : IntKind.u8.min = 0 := rfl
    have e2 : IntKind.u8.max = 255 := rfl
    rw [e1, e2] at h2
    congr 1
    rw [UInt8.toNat_ofNat']
    omega
  by_cases hn : n ≤ 1048576
  · exact law A n c _ W hn hu
  · exact law_big A n c W (by omega)
theorem own : ownKnob Try.prog.godebug = none := by kernel_rfl
theorem laidOut : laidOutB Try.prog = true := by kernel_rfl
theorem lifted (os : Os) (started : os.Started) (H : Type) (enc : TypeId × Value → H) :
    ReturnsInHanded {} Try.checked os 3 .any (Rows.fnFileListsSpec.pre6 enc Try.prog Try.f3 Rows.fnFileListsRow.domain false) (Rows.fnFileListsSpec.post enc Try.prog Try.f3 false true false false) := by
  refine returnsInHanded_of_change (C := Try.checked) own started (by kernel_rfl) Try.func3
    (ChangeSpec.witness6 (enc := enc) (C := Try.checked) false ⟨#[], #[.slice none 0 0], []⟩ 8 (by kernel_rfl) (by kernel_rfl) (by kernel_rfl) (by kernel_rfl)) ?_
  intro W base args ds gs before hval hW _ _
  have hW' := hW
  obtain ⟨p, q, hA, hV, rfl, hfz, hnd⟩ := hW
  refine (walk H enc W base args ds p hval hA).mono fun e W' ⟨he, hb⟩ => ?_
  subst he
  exact ⟨_, rfl, law_post laidOut (by kernel_rfl) rfl rfl Try.underlying4 (fun xs hx => by
      match xs, hx with
      | [x0], _ => exact ⟨rfl, rfl, rfl⟩) hW' hb⟩
theorem over : Rows.fnFileListsRow.holds Try.pinned (OpenSpec.ofChange Rows.fnFileListsSpec) :=
  OpenClaim.holds_of_wide 3 Try.f3 rfl rfl rfl rfl rfl rfl rfl ⟨rfl, rfl, rfl, rfl, rfl⟩ rfl rfl rfl rfl rfl (by kernel_rfl) Try.func3 (by kernel_rfl)
    (of_decide_eq_true (by kernel_rfl)) (by unfold Func.isWrapper; first | (rw [if_pos (by decide +kernel)]; kernel_rfl) | (rw [if_neg (by decide +kernel)]; exact ⟨rfl, rfl⟩))
    (fun os started H enc _ => lifted os started H enc)
/-- the given statement -/
theorem proved : Rows.FnFileListsSaid := over
end Go.Proofs.Ytdofpkdemmngeaa.fnFileLists
