/-
  Trees: an entry found, a disk opened for a path, a file read: the reference's side.
-/
import Derived.Test.YtiefcgmghkkbmaaGreatDoorTreSa
namespace Go.Proofs.YtiefcgmghkkbmaaGreatDoor
open Go Go.ChangeShapes Go.WideShapes Go.ChangeAt Go.RowKit lib
set_option linter.unusedVariables false
set_option linter.unusedSimpArgs false
set_option maxRecDepth 100000
/-- the reference's tree, to be read -/
def SpR (w : World) (p n : Nat) (A : Option Addr) (c : Nat) (s : Nat → ByteArray) : Prop := Row w p 40 #[.slice A n c] ∧ Sl w w.heap.size A n (fun i => .string (s i))
theorem SpR.below {w w' : World} {p n c : Nat} {A : Option Addr} {s : Nat → ByteArray} (h : SpR w p n A c s) (hb : Below w.heap.size w w') : SpR w' p n A c s := ⟨h.1.below hb h.1.lt, (h.2.below hb).more hb.size⟩
theorem SpR.ptr {w : World} {p n c : Nat} {A : Option Addr} {s : Nat → ByteArray} (h : SpR w p n A c s) : w.cell? ⟨p, 0, none⟩ = some (.slice A n c) := h.1.cell 0
theorem specTable_any (d : Nat) (w : World) : Calls Tryz.prog 69 #[.int .i64 (d : Int)] w fun e w' => e = .returned (.int .i64 (tTab d : Nat)) ∧ w = w' := by
  by_cases h : d = 0
  · have e1 : tTab d = 4 := by unfold tTab; rw [if_pos h]
    rw [e1]
    subst h
    go_enter Tryz.func69, Tryz.ntmps69
    go_wp2_with fail
    go_ret
    exact ⟨rfl, rfl⟩
  · have e1 : tTab d = 12 := by unfold tTab; rw [if_neg h]
    have t0 : ((d : Int) == 0) = false := by simp; omega
    rw [e1]
    clear h
    go_enter Tryz.func69, Tryz.ntmps69
    go_wp2_with fail
    go_ret
    exact ⟨rfl, rfl⟩
/-- what find answers -/
def fndI (b : Nat) : Int := if b = 0 then -1 else (b : Int)
set_option maxHeartbeats 8000000 in
theorem find_any {w : World} {p n c d : Nat} {A : Option Addr} {s : Nat → ByteArray} {u : Nat → Nat → UInt8} {nm : ByteArray} (hu : ∀ i, u i = byteAt (s i)) (ht : SpR w p n A c s) (hn : n ≤ 128) (h32 : ∀ i, i < n → (s i).size = 32) (hd : DD n u d) (hnm : NameS nm) :
    Calls Tryz.prog 27 #[.pointer (some ⟨p, 0, none⟩), .int .i64 (d : Int), .string nm] w fun e w' => e = .returned (.int .i64 (fndI (lookU u d nm))) ∧ Below w.heap.size w w' := by
  have hdn := hd.1
  have c1 := ht.ptr
  have hT := tTab_le d
  have hH := tHash_lt nm
  obtain ⟨l0, hl0, _, hl2⟩ := hd.chain hH
  have hR : (l0.find? fun x => decide (tnm (u x) = nm)).getD 0 = lookU u d nm := by unfold lookU; rw [lkL_eq hl0]
  obtain ⟨R, hRR⟩ : ∃ R, lookU u d nm = R := ⟨_, rfl⟩
  rw [hRR] at hR ⊢
  have HTB := Lib.hid (fun W => specTable_any d W)
  have HHO := Lib.hid (fun W => specHash_any nm hnm W)
  obtain ⟨t, ht'⟩ : ∃ t, tTab d = t := ⟨_, rfl⟩
  obtain ⟨h, hh'⟩ : ∃ h, tHash nm = h := ⟨_, rfl⟩
  rw [ht'] at HTB hT hl0
  rw [hh'] at HHO hH hl0
  obtain ⟨ba, oa, hA, _, hca⟩ := ht.2 d hdn
  subst hA
  dsimp only at hca
  have hz := h32 d hdn
  rw [hu d] at hl0
  obtain ⟨x, hx⟩ : ∃ x, s d = x := ⟨_, rfl⟩
  rw [hx] at hca hz hl0
  obtain ⟨q, hqe⟩ : ∃ q, t + h = q := ⟨_, rfl⟩
  have hth : q < x.size := by omega
  rw [hqe] at hl0
  have hg := byteAt_get x q hth
  obtain ⟨b0, hb0⟩ : ∃ b, (byteAt x q).toNat = b := ⟨_, rfl⟩
  have hb1 : b0 < 256 := by rw [← hb0]; exact UInt8.toNat_lt _
  rw [hb0] at hl0
  have hszx : ((x.size : Nat) : Int) = 32 := by omega
  have eqb : IntKind.i64.wrap (b0 : Int) = (b0 : Int) := by rw [IntKind.wrap_i64]; omega
  have hqi : (q : Int) < 32 := by omega
  have eq1 : (t : Int) + (h : Int) = (q : Int) := by omega
  have eqw : IntKind.i64.wrap (q : Int) = (q : Int) := by rw [IntKind.wrap_i64]; omega
  have hdi : (d : Int) < (n : Int) := by omega
  have HL := Lib.hid (show ∃ l, Lnk (nx2 u) b0 l ∧ (∀ x ∈ l, EE n u d x) ∧ (l.find? fun x => decide (tnm (u x) = nm)).getD 0 = R from ⟨l0, hl0, fun x hx => (hl2 x hx).1, hR⟩)
  have HT := Lib.hid ht
  have H32 := Lib.hid h32
  have HU := Lib.hid hu
  clear hl0 hl2 hR hRR ht ht' hh' hd hnm hx h32 hu hqe
  go_enter Tryz.func27, Tryz.ntmps27
  go_upto_region 1 with fail
  go_cut [7] (fun s7 wx => s7 = .int .i64 (b0 : Int) ∧ wx = w.drew)
  case first =>
    go_region_law (first | (go_simp; go_at_call 69; refine (HTB.out _).mono ?_; rintro e w' ⟨rfl, hw'⟩; rw [← hw']; clear hw' w') | (go_simp; go_at_call 70; refine (HHO.out _).mono ?_; rintro e w' ⟨rfl, hw'⟩; rw [← hw']; clear hw' w'))
    all_goals
      go_wp2_with fail
      go_meet
      exact ⟨rfl, rfl⟩
  case rest =>
    obtain ⟨rfl, rfl⟩ := hcut
    go_wp2_with fail
    go_loopw [7] (fun s7 wr => ∃ (b : Nat) (l : List Nat), b < 256 ∧ s7 = .int .i64 (b : Int) ∧ Lnk (nx2 u) b l ∧ (∀ x ∈ l, EE n u d x) ∧ (l.find? fun x => decide (tnm (u x) = nm)).getD 0 = R ∧ Below w.heap.size w wr) (fun s _ => (lkL (nx2 u) (intOf s).toNat).length)
    case atStart =>
      obtain ⟨l, h1, h2, h3⟩ := HL.out
      exact ⟨b0, l, hb1, rfl, h1, h2, h3, (Below.refl _ _).drew⟩
    case round =>
      obtain ⟨b, l, hb, rfl, h1, h2, h3, hbw⟩ := hrel
      have HB := Lib.hid hbw
      have HTR := Lib.hid (HT.out.below hbw)
      clear hbw
      by_cases h0 : b = 0
      · subst h0
        obtain rfl := h1.zero
        have h4 : R = 0 := h3.symm
        clear h1 h2 h3 hca c1
        subst h4
        go_wp2_with fail
        go_ret
        exact ⟨rfl, HB.out⟩
      · obtain ⟨l', rfl, h5⟩ := h1.step h0
        have hE := h2 b List.mem_cons_self
        have hbn := hE.lt
        have k1 := HTR.out.ptr
        obtain ⟨_, _, e1, _, k2⟩ := HTR.out.2 b hbn
        simp only [Option.some.injEq, Addr.mk.injEq, and_true] at e1
        obtain ⟨rfl, rfl⟩ := e1
        dsimp only at k2
        have hzb := H32.out b hbn
        have hub := HU.out b
        have hnok := hE.ent.2.1
        have HNA := Lib.hid (fun W => specName_any (s b) hzb W)
        have hns : tnmS (byteAt (s b)) = tnm (u b) := by rw [← hub]; exact tnmS_ok hnok
        rw [hns] at HNA
        obtain ⟨xb, hxb⟩ : ∃ x, s b = x := ⟨_, rfl⟩
        rw [hxb] at k2 hzb hub HNA
        have hz2 : 2 < xb.size := by omega
        have hg2 := byteAt_get xb 2 hz2
        obtain ⟨b2, hb2⟩ : ∃ b', (byteAt xb 2).toNat = b' := ⟨_, rfl⟩
        have hb3 : b2 < 256 := by rw [← hb2]; exact UInt8.toNat_lt _
        have hnx : nx2 u b = b2 := by unfold nx2; rw [hub]; exact hb2
        rw [hnx] at h5
        have hszb : ((xb.size : Nat) : Int) = 32 := by omega
        have t0 : ((b : Int) != 0) = true := by simp; omega
        obtain ⟨y, hy⟩ : ∃ y, tnm (u b) = y := ⟨_, rfl⟩
        rw [hy] at HNA
        have hki : (b : Int) < (n : Int) := by omega
        by_cases hq : y = nm
        · have h4 : R = b := by
            rw [← h3, List.find?_cons, hy]
            simp [hq]
          have q1 : (y.toList == nm.toList) = true := str_eq_true hq
          have q2 : (nm.toList == nm.toList) = true := str_eq_true rfl
          have HF := Lib.hid (show fndI b = (b : Int) from if_neg h0)
          clear h1 h2 h3 h5 hE hub hnok hy hns hxb hnx
          subst h4
          go_wp2_with (go_at_call 71; refine (HNA.out _).mono ?_; rintro e w3 ⟨rfl, hb3'⟩)
          go_ret
          rw [HF.out]
          exact ⟨rfl, HB.out.trans (hb3'.mono HB.out.size)⟩
        · have h6 : (l'.find? fun x => decide (tnm (u x) = nm)).getD 0 = R := by
            rw [← h3, List.find?_cons, hy]
            simp [hq]
          have q1 : (y.toList == nm.toList) = false := str_eq_false hq
          have HG := Lib.hid (show (∀ x ∈ l', EE n u d x) ∧ (l'.find? fun x => decide (tnm (u x) = nm)).getD 0 = R from ⟨fun x hx => h2 x (List.mem_cons_of_mem _ hx), h6⟩)
          have H5 := Lib.hid h5
          have H1 := Lib.hid h1
          clear h1 h2 h3 h5 hE hub hnok hy h6 hns hnx
          have HX := Lib.hid hxb
          clear hxb
          go_wp2_with (go_at_call 71; refine (HNA.out _).mono ?_; rintro e w3 ⟨rfl, hb3'⟩; have hw3 := HTR.out.below hb3'; have k1 := hw3.ptr; obtain ⟨_, _, e1, _, k2⟩ := hw3.2 b hbn; simp only [Option.some.injEq, Addr.mk.injEq, and_true] at e1; obtain ⟨rfl, rfl⟩ := e1; dsimp only at k2; rw [HX.out] at k2)
          go_roundw
          case rel => exact ⟨b2, l', hb3, by go_num, H5.out, HG.out.1, HG.out.2, HB.out.trans (hb3'.mono HB.out.size)⟩
          case measure =>
            rw [lkLen H1.out]
            have := lkLen H5.out
            simp only [this, List.length_cons]
            omega
def SaOut (n : Nat) (s : Nat → ByteArray) (p : ByteArray) (w : World) (e : Ending) (w' : World) : Prop :=
  Below w.heap.size w w' ∧ (((askT n s p).1 ≠ 0 ∧ e = .returned (.tuple #[.pointer none, .int .i64 0, .string ⟨#[]⟩, .int .i64 ((askT n s p).1 : Nat)])) ∨
    ((askT n s p).1 = 0 ∧ ∃ (q : Nat) (A : Option Addr) (c : Nat), e = .returned (.tuple #[.pointer (some ⟨q, 0, none⟩), .int .i64 ((askT n s p).2.1 : Nat), .string (askT n s p).2.2, .int .i64 0]) ∧ Row w' q 40 #[.slice A n c] ∧ w'.ownsRow w.heap.size 9 1 (.slice A n c) n ((List.range n).map fun (i : Nat) => Value.string (s i))))
theorem SaOut.bad {n : Nat} {s : Nat → ByteArray} {p : ByteArray} {w w' : World} {code : Nat} (hb : Below w.heap.size w w') (hc : askT n s p = (code, 0, ⟨#[]⟩)) (h0 : code ≠ 0) : SaOut n s p w (.returned (.tuple #[.pointer none, .int .i64 0, .string ⟨#[]⟩, .int .i64 (code : Int)])) w' := by
  unfold SaOut
  rw [hc]
  exact ⟨hb, .inl ⟨h0, rfl⟩⟩
theorem SaOut.good {n : Nat} {s : Nat → ByteArray} {p nm : ByteArray} {w w' : World} {d q c : Nat} {A : Option Addr} (hb : Below w.heap.size w w') (hc : askT n s p = (0, d, nm)) (hr : Row w' q 40 #[.slice A n c]) (ho : w'.ownsRow w.heap.size 9 1 (.slice A n c) n ((List.range n).map fun (i : Nat) => Value.string (s i))) :
    SaOut n s p w (.returned (.tuple #[.pointer (some ⟨q, 0, none⟩), .int .i64 (d : Int), .string nm, .int .i64 0])) w' := by
  unfold SaOut
  rw [hc]
  exact ⟨hb, .inr ⟨rfl, q, A, c, rfl, hr, ho⟩⟩
set_option maxHeartbeats 8000000 in
theorem l18Ask_any {w : World} {A : Option Addr} {n c : Nat} {s : Nat → ByteArray} {p : ByteArray} (hm : n ≤ 1048576) (hp : p.size ≤ 1048576) (hs : Sl w w.heap.size A n (fun i => .string (s i))) :
    Calls Tryz.prog 26 #[.slice A n c, .string p] w (SaOut n s p w) := by
  have HNM := Lib.hid (l18Path_any (w := w) hp)
  have HS := Lib.hid hs
  clear hs
  cases hpt : pathT p with
  | none =>
    have ha := askT_none (n := n) (s := s) hpt
    have HN1 := Lib.hid (HNM.out.mono (R' := fun e w' => ∃ v, e = .returned (.tuple #[v, .bool false]) ∧ Below w.heap.size w w') (fun e w' h => by
      obtain ⟨hb, ⟨_, v, h⟩ | ⟨N, _, _, h, _⟩⟩ := h
      · exact ⟨v, h, hb⟩
      · rw [hpt] at h; cases h))
    have HA := Lib.hid ha
    clear ha hpt
    go_enter Tryz.func26, Tryz.ntmps26
    go_wp2_with (go_at_call 68; refine HN1.out.mono ?_; rintro e w1 ⟨v, rfl, hb1⟩)
    exact bodyPost_ret (v := .tuple #[.pointer none, .int .i64 0, .string ⟨#[]⟩, .int .i64 1]) (by simp [results, Tryz.results26, go_sem]) rfl (SaOut.bad (code := 1) hb1 HA.out (by decide))
  | some N =>
    obtain ⟨_, hN4, hN0, hNN⟩ := pathT_some hpt
    have HN1 := Lib.hid (HNM.out.mono (R' := fun e w' => ∃ (B : Option Addr) (d : Nat), e = .returned (.tuple #[.slice B N.length d, .bool true]) ∧ Sl w' w'.heap.size B N.length (fun i => .string (N.getD i ⟨#[]⟩)) ∧ Below w.heap.size w w') (fun e w' h => by
      obtain ⟨hb, ⟨h, _⟩ | ⟨N', B, d, h, h2, h4⟩⟩ := h
      · rw [hpt] at h; cases h
      · rw [hpt] at h
        injection h with h
        subst h
        exact ⟨B, d, h2, h4, hb⟩))
    have hac := askT_code (n := n) (s := s) hpt
    have haf := askT_fold (n := n) (s := s) hpt
    have hak := askT_ok (n := n) (s := s) hpt
    obtain ⟨R, hR⟩ : ∃ R, askT n s p = R := ⟨_, rfl⟩
    rw [hR] at hac haf hak
    have HRR := Lib.hid hR
    have hz := tCode_zero (n := n) (s := s)
    have HAA := Lib.hid (fun (W : World) (B : Option Addr) (hW : Sl W W.heap.size B n (fun i => .string (s i))) => sopen_any (c := c) hm hW)
    obtain ⟨code, hcode⟩ : ∃ k, tCode n s = k := ⟨_, rfl⟩
    rw [hcode] at hac haf hak hz HAA
    obtain ⟨u, hu⟩ : ∃ u : Nat → Nat → UInt8, (fun i => byteAt (s i)) = u := ⟨_, rfl⟩
    rw [hu] at haf hak hz
    have HU := Lib.hid (show ∀ i, u i = byteAt (s i) from fun i => by rw [← hu])
    obtain ⟨L, hL⟩ : ∃ L, N.length = L := ⟨_, rfl⟩
    rw [hL] at HN1 hN4 hN0
    by_cases h0 : code = 0
    · subst h0
      obtain ⟨⟨h4, hn, h32⟩, hwk⟩ := hz rfl
      have hdd := dd_root (u := u) (by omega) hn hwk
      have HAK := Lib.hid (fun (W : World) (B : Option Addr) (hW : Sl W W.heap.size B n (fun i => .string (s i))) => (HAA.out W B hW).mono (R' := fun e w' => ∃ (p : Nat) (A : Option Addr) (c : Nat), e = .returned (.tuple #[.pointer (some ⟨p, 0, none⟩), .int .i64 0]) ∧ Row w' p 40 #[.slice A n c] ∧ w'.ownsRow W.heap.size 9 1 (.slice A n c) n ((List.range n).map fun (i : Nat) => Value.string (s i)) ∧ Below W.heap.size W w') (fun e w' h => by
        obtain ⟨hb, ⟨h, _⟩ | ⟨_, q, A, c, h1, h2, h3⟩⟩ := h
        · exact absurd rfl h
        · exact ⟨q, A, c, h1, h2, h3, hb⟩))
      have HAF := Lib.hid (haf rfl)
      have HAO := Lib.hid (hak rfl)
      have hlast : N.getLastD ⟨#[]⟩ = N.getD (L - 1) ⟨#[]⟩ := by
        rw [List.getLastD_eq_getLast?, List.getLast?_eq_getElem?, List.getD_eq_getElem?_getD, hL]
      have hdl : L - 1 = N.dropLast.length := by rw [List.length_dropLast, hL]
      have HDG := Lib.hid (show ∀ i, i < L - 1 → N.getD i ⟨#[]⟩ = N.dropLast.getD i ⟨#[]⟩ from fun i hi => by
        rw [List.getD_eq_getElem?_getD, List.getD_eq_getElem?_getD, List.getElem?_dropLast, if_pos (by omega)])
      have HNN := Lib.hid (show ∀ x ∈ N.dropLast, NameS x from fun x hx => hNN x (List.dropLast_subset _ hx))
      obtain ⟨nm, hnm⟩ : ∃ x, N.getLastD ⟨#[]⟩ = x := ⟨_, rfl⟩
      rw [hnm] at hlast HAO
      have HLA := Lib.hid hlast
      obtain ⟨D, hD⟩ : ∃ D, N.dropLast = D := ⟨_, rfl⟩
      rw [hD] at HAF HAO HDG HNN hdl
      obtain ⟨F, hF⟩ : ∃ F, tFold u D 0 = F := ⟨_, rfl⟩
      rw [hF] at HAF HAO
      have HF := Lib.hid hF
      obtain ⟨M, hM⟩ : ∃ M, L - 1 = M := ⟨_, rfl⟩
      rw [hM] at HDG HLA hdl
      have HDL := Lib.hid hdl
      have hML : M < L := by omega
      have hLM : ∀ k : Nat, k < M → (k : Int) + 1 < (L : Int) := fun k hk => by omega
      have hLN : ¬ ((M : Int) + 1 < (L : Int)) := by omega
      have eL : (L : Int) - 1 = (M : Int) := by omega
      have HLM := Lib.hid hLM
      have HDD := Lib.hid hdd
      have H32 := Lib.hid h32
      clear hac haf hak hz HAA hpt hu hcode hR hdd hF hnm hlast hdl hNN hL hwk hM hD h32 hLM
      go_enter Tryz.func26, Tryz.ntmps26
      go_upto_region 4 with (go_at_call 68; refine HN1.out.mono ?_; rintro e w1 ⟨B, d, rfl, hsl1, hb1⟩)
      have HSL1 := Lib.hid hsl1
      have HB1 := Lib.hid hb1
      have HAC := Lib.hid (HAK.out _ _ ((HS.out.below hb1).more hb1.size))
      clear hsl1 hb1
      go_upto_region 7 with (go_at_call 46; refine HAC.out.mono ?_; rintro e w2 ⟨q, A2, c2, rfl, hr, ho, hb2⟩)
      have HR2 := Lib.hid hr
      have HO2 := Lib.hid ho
      have HT2 := Lib.hid (show SpR w2 q n A2 c2 s from ⟨hr, own_slR ho⟩)
      have HB2 := Lib.hid hb2
      have HSL2 := Lib.hid ((HSL1.out.below hb2).more hb2.size)
      clear hr ho hb2
      go_wp2_with fail
      go_loopw [12, 13] (fun s12 s13 wr => ∃ (k a : Nat), k ≤ M ∧ s13 = .int .i64 (k : Int) ∧ s12 = .int .i64 (a : Int) ∧ DD n u a ∧ tFold u (D.drop k) a = F ∧ Below w2.heap.size w2 wr) (fun _ s _ => M - (intOf s).toNat)
      case atStart => exact ⟨0, 0, by omega, rfl, rfl, HDD.out, HF.out, Below.refl _ _⟩
      case round =>
        obtain ⟨k, a, hk, rfl, rfl, hdd, hf, hbw⟩ := hrel
        have HB := Lib.hid hbw
        have HTR := Lib.hid (HT2.out.below hbw)
        have HSLR := Lib.hid ((HSL2.out.below hbw).more hbw.size)
        clear hbw
        by_cases hlt : k < M
        · have hki : (k : Int) + 1 < (L : Int) := HLM.out k hlt
          have hkL : k < L := by omega
          have hkLi : (k : Int) < (L : Int) := by omega
          obtain ⟨ba, oa, hA, hbl, hca⟩ := HSLR.out k hkL
          subst hA
          dsimp only at hca
          rw [HDG.out k hlt] at hca
          have hkN : k < D.length := by rw [← HDL.out]; exact hlt
          obtain ⟨x, hx⟩ : ∃ x, D.getD k ⟨#[]⟩ = x := ⟨_, rfl⟩
          have hx2 : D[k] = x := by rw [← hx, List.getD_eq_getElem?_getD, List.getElem?_eq_getElem hkN]; rfl
          rw [hx] at hca
          have hxn : NameS x := HNN.out x (by rw [← hx2]; exact List.getElem_mem hkN)
          rw [List.drop_eq_getElem_cons hkN, hx2, tFold] at hf
          have HFI := Lib.hid (find_any HU.out HTR.out hn H32.out hdd hxn)
          have hee := lookU_ee hdd x
          obtain ⟨b, hb⟩ : ∃ b, lookU u a x = b := ⟨_, rfl⟩
          rw [hb] at HFI hee hf
          clear hx hx2 hb hdd hxn hkN
          by_cases hb0 : b = 0
          · rw [if_pos hb0] at hf
            rw [show fndI b = -1 from if_pos hb0] at HFI
            have HRA := Lib.hid (HRR.out.trans (HAF.out (by rw [← hf]; decide)))
            rw [← hf] at HRA
            clear hee hb0 hf
            go_wp2_with (go_at_call 27; refine HFI.out.mono ?_; rintro e w3 ⟨rfl, hb3⟩)
            exact bodyPost_ret (v := .tuple #[.pointer none, .int .i64 0, .string ⟨#[]⟩, .int .i64 3]) (by simp [results, Tryz.results26, go_sem]) rfl (SaOut.bad (code := 3) (HB1.out.trans ((HB2.out.trans ((HB.out.trans (hb3.mono HB.out.size)).mono HB2.out.size)).mono HB1.out.size)) HRA.out (by decide))
          · rw [if_neg hb0] at hf
            rw [show fndI b = (b : Int) from if_neg hb0] at HFI
            have hE : EE n u a b := hee.resolve_left hb0
            have hbn := hE.lt
            have t0 : decide ((b : Int) < 0) = false := by rw [decide_eq_false_iff_not]; omega
            have hbi : (b : Int) < (n : Int) := by omega
            have hub := HU.out b
            have hzb := H32.out b hbn
            obtain ⟨xb, hxb⟩ : ∃ x, s b = x := ⟨_, rfl⟩
            have HXB := Lib.hid hxb
            rw [hxb] at hub hzb
            have hz2 : 0 < xb.size := by omega
            have hg2 := byteAt_get xb 0 hz2
            have hszb : ((xb.size : Nat) : Int) = 32 := by omega
            obtain ⟨y, hy⟩ : ∃ y, (byteAt xb 0).toNat = y := ⟨_, rfl⟩
            have hy2 : y < 256 := by rw [← hy]; exact UInt8.toNat_lt _
            by_cases h4 : u b 0 = 4
            · rw [if_pos h4] at hf
              have hy4 : y = 4 := by rw [← hy, ← hub, h4]; first | done | rfl
              have t4 : ((y : Int) != 4) = false := by simp; omega
              have HDB := Lib.hid (hE.dir h4)
              have HF2 := Lib.hid hf
              clear hf hE hee h4 hub hxb hy4
              go_wp2_with (go_at_call 27; refine HFI.out.mono ?_; rintro e w3 ⟨rfl, hb3⟩; have hw3 := HTR.out.below hb3; have k1 := hw3.ptr; obtain ⟨b5, o5, rfl, _, k2⟩ := hw3.2 b hbn; dsimp only at k2; rw [HXB.out] at k2)
              go_roundw
              case rel => exact ⟨k + 1, b, by omega, by go_num, rfl, HDB.out, HF2.out, HB.out.trans (hb3.mono HB.out.size)⟩
              case measure => simp [intOf]; omega
            · rw [if_neg h4] at hf
              have hy4 : y ≠ 4 := fun e => h4 ((u8_is 4 (by rw [hub]; exact hy)).2 e)
              have t4 : ((y : Int) != 4) = true := by simp; omega
              have HRA := Lib.hid (HRR.out.trans (HAF.out (by rw [← hf]; decide)))
              rw [← hf] at HRA
              clear hf hE hee h4 hub hxb hy4
              go_wp2_with (go_at_call 27; refine HFI.out.mono ?_; rintro e w3 ⟨rfl, hb3⟩; have hw3 := HTR.out.below hb3; have k1 := hw3.ptr; obtain ⟨b5, o5, rfl, _, k2⟩ := hw3.2 b hbn; dsimp only at k2; rw [HXB.out] at k2)
              exact bodyPost_ret (v := .tuple #[.pointer none, .int .i64 0, .string ⟨#[]⟩, .int .i64 6]) (by simp [results, Tryz.results26, go_sem]) rfl (SaOut.bad (code := 6) (HB1.out.trans ((HB2.out.trans ((HB.out.trans (hb3.mono HB.out.size)).mono HB2.out.size)).mono HB1.out.size)) HRA.out (by decide))
        · obtain rfl : k = M := by omega
          rw [List.drop_eq_nil_of_le (by rw [HDL.out]; exact Nat.le_refl _), tFold] at hf
          have HRA := Lib.hid (HRR.out.trans (HAO.out (by rw [← hf])))
          rw [← hf] at HRA
          have t1 : decide ((k : Int) + 1 < (L : Int)) = false := by simp; omega
          obtain ⟨ba, oa, hA, hbl, hca⟩ := HSLR.out k hML
          subst hA
          dsimp only at hca
          rw [← HLA.out] at hca
          have hkLi : (k : Int) < (L : Int) := by omega
          have eqw : IntKind.i64.wrap (k : Int) = (k : Int) := by rw [IntKind.wrap_i64]; omega
          clear hf
          go_wp2_with fail
          go_region_law fail
          all_goals
            go_wp2_with fail
            exact bodyPost_ret (v := .tuple #[.pointer (some ⟨q, 0, none⟩), .int .i64 (a : Int), .string nm, .int .i64 0]) (by simp [results, Tryz.results26, go_sem]) rfl (SaOut.good (HB1.out.trans ((HB2.out.trans (HB.out.mono HB2.out.size)).mono HB1.out.size)).drew HRA.out ((HR2.out.below HB.out HR2.out.lt).drew) (own_base (own_below HO2.out HB.out) HB1.out.size).drew)
    · have HRA := Lib.hid (HRR.out.trans (hac h0))
      have HAK := Lib.hid (fun (W : World) (B : Option Addr) (hW : Sl W W.heap.size B n (fun i => .string (s i))) => (HAA.out W B hW).mono (R' := fun e w' => e = .returned (.tuple #[.pointer none, .int .i64 (code : Int)]) ∧ Below W.heap.size W w') (fun e w' h => by
        obtain ⟨hb, ⟨_, h⟩ | ⟨h, _⟩⟩ := h
        · exact ⟨h, hb⟩
        · exact absurd h h0))
      have t1 : ((code : Int) != 0) = true := by simp; omega
      clear hac haf hak hz HAA hpt hu hcode hR hNN hL
      go_enter Tryz.func26, Tryz.ntmps26
      go_upto_region 4 with (go_at_call 68; refine HN1.out.mono ?_; rintro e w1 ⟨B, d, rfl, hsl1, hb1⟩)
      have HB1 := Lib.hid hb1
      have HAC := Lib.hid (HAK.out _ _ ((HS.out.below hb1).more hb1.size))
      clear hsl1 hb1
      go_wp2_with (go_at_call 46; refine HAC.out.mono ?_; rintro e w2 ⟨rfl, hb2⟩)
      exact bodyPost_ret (v := .tuple #[.pointer none, .int .i64 0, .string ⟨#[]⟩, .int .i64 (code : Int)]) (by simp [results, Tryz.results26, go_sem]) rfl (SaOut.bad (HB1.out.trans (hb2.mono HB1.out.size)) HRA.out h0)
end Go.Proofs.YtiefcgmghkkbmaaGreatDoor
