/-
  Trees: ListTree, the program's side.
-/
import Derived.Test.YtiefcgmghkkbmaaGreatDoorTreRi
import Derived.Test.YtiefcgmghkkbmaaGreatDoorTreN
import Derived.Test.YtiefcgmghkkbmaaGreatDoorStrX
import Derived.Test.YtiefcgmghkkbmaaGreatDoorTreC
namespace Go.Proofs.YtiefcgmghkkbmaaGreatDoor
open Go Go.ChangeShapes Go.WideShapes Go.ChangeAt Go.RowKit lib
set_option linter.unusedVariables false
set_option linter.unusedSimpArgs false
set_option maxRecDepth 100000
/-- texts sorted -/
theorem sortTx_any {w w0 : World} {c : Nat} {A : Option Addr} {L : List ByteArray} (h : StrR w0.heap.size w A c L) (hb : Below w0.heap.size w0 w) (hn : L.length ≤ 1048576) :
    Calls Tryz.prog 49 #[.slice A L.length c] w fun e w' => e = .returned (.tuple #[]) ∧ StrR w0.heap.size w' A c (putL [] L) ∧ Below w0.heap.size w0 w' := by
  have h1 := sortStr_any h.key hb (by rw [List.length_map]; exact hn)
  rw [List.length_map] at h1
  refine h1.mono ?_
  rintro e w' ⟨he, hk, hb'⟩
  rw [sort_put] at hk
  exact ⟨he, hk.text, hb'⟩
theorem tFold_snoc {u : Nat → Nat → UInt8} : ∀ (M : List ByteArray) (x : ByteArray) (d : Nat), tFold u (M ++ [x]) d = if (tFold u M d).2 = 0 then tFold u [x] (tFold u M d).1 else tFold u M d
  | [], x, d => (if_pos rfl).symm
  | nm :: r, x, d => by
    rw [List.cons_append, tFold, tFold]
    by_cases h0 : lookU u d nm = 0
    · rw [if_pos h0, if_pos h0, if_neg (by decide)]
    · rw [if_neg h0, if_neg h0]
      by_cases h4 : u (lookU u d nm) 0 = 4
      · rw [if_pos h4, if_pos h4, tFold_snoc r x _]
      · rw [if_neg h4, if_neg h4, if_neg (by decide)]
/-- the directory that is listed: a code and its block -/
noncomputable def lsAt (n : Nat) (s : Nat → ByteArray) (p : ByteArray) : Nat × Nat :=
  if p = ⟨#[]⟩ then (tCode n s, 0)
  else match pathT p with
  | none => (1, 0)
  | some N => if tCode n s = 0 then ((tFold (fun i => byteAt (s i)) N 0).2, (tFold (fun i => byteAt (s i)) N 0).1) else (tCode n s, 0)
noncomputable def lsT (n : Nat) (s : Nat → ByteArray) (p : ByteArray) : List ByteArray := if (lsAt n s p).1 = 0 then putL [] (lsD (fun i => byteAt (s i)) (lsAt n s p).2 8) else []
theorem lsAt_root {n : Nat} {s : Nat → ByteArray} : lsAt n s ⟨#[]⟩ = (tCode n s, 0) := if_pos rfl
theorem lsAt_none {n : Nat} {s : Nat → ByteArray} {p : ByteArray} (h0 : p ≠ ⟨#[]⟩) (h : pathT p = none) : lsAt n s p = (1, 0) := by unfold lsAt; rw [if_neg h0, h]
theorem lsAt_code {n : Nat} {s : Nat → ByteArray} {p : ByteArray} {N : List ByteArray} (h0 : p ≠ ⟨#[]⟩) (h : pathT p = some N) (hc : tCode n s ≠ 0) : lsAt n s p = (tCode n s, 0) := by unfold lsAt; rw [if_neg h0, h]; dsimp only; rw [if_neg hc]
theorem lsAt_fold {n : Nat} {s : Nat → ByteArray} {p : ByteArray} {N : List ByteArray} (h0 : p ≠ ⟨#[]⟩) (h : pathT p = some N) (hc : tCode n s = 0) : lsAt n s p = ((tFold (fun i => byteAt (s i)) N 0).2, (tFold (fun i => byteAt (s i)) N 0).1) := by unfold lsAt; rw [if_neg h0, h]; dsimp only; rw [if_pos hc]
theorem lsT_bad {n : Nat} {s : Nat → ByteArray} {p : ByteArray} (h : (lsAt n s p).1 ≠ 0) : lsT n s p = [] := if_neg h
theorem lsT_ok {n : Nat} {s : Nat → ByteArray} {p : ByteArray} {d : Nat} (h : lsAt n s p = (0, d)) : lsT n s p = putL [] (lsD (fun i => byteAt (s i)) d 8) := by unfold lsT; rw [h, if_pos rfl]
/-- what a listing answers -/
def LsOut (n : Nat) (s : Nat → ByteArray) (p : ByteArray) (w : World) (e : Ending) (w' : World) : Prop :=
  ∃ (A : Option Addr) (c : Nat), e = .returned (.tuple #[.slice A (lsT n s p).length c, .int .i64 ((lsAt n s p).1 : Nat)]) ∧ w'.ownsRow w.heap.size 9 1 (.slice A (lsT n s p).length c) (lsT n s p).length ((lsT n s p).map Value.string) ∧ Below w.heap.size w w'
theorem LsOut.bad {n : Nat} {s : Nat → ByteArray} {p : ByteArray} {w w' : World} {A : Option Addr} {c k d : Nat} (hk : lsAt n s p = (k, d)) (h0 : k ≠ 0) (ho : w'.ownsRow w.heap.size 9 1 (.slice A 0 c) 0 []) (hb : Below w.heap.size w w') : LsOut n s p w (.returned (.tuple #[.slice A 0 c, .int .i64 (k : Int)])) w' := by
  unfold LsOut
  rw [lsT_bad (by rw [hk]; exact h0), hk]
  exact ⟨A, c, rfl, ho, hb⟩
theorem LsOut.good {n : Nat} {s : Nat → ByteArray} {p : ByteArray} {w w' : World} {A : Option Addr} {c d m : Nat} {u : Nat → Nat → UInt8} (hu : (fun i => byteAt (s i)) = u) (hk : lsAt n s p = (0, d)) (hm : m = (putL [] (lsD u d 8)).length) (ho : StrR w.heap.size w' A c (putL [] (lsD u d 8))) (hb : Below w.heap.size w w') : LsOut n s p w (.returned (.tuple #[.slice A m c, .int .i64 0])) w' := by
  subst hm hu
  unfold LsOut
  rw [lsT_ok hk, hk]
  exact ⟨A, c, rfl, ho, hb⟩
set_option maxHeartbeats 32000000 in
theorem implListTree_any {w : World} {A : Option Addr} {n c : Nat} {s : Nat → ByteArray} {p : ByteArray} (hm : n ≤ 1048576) (hp : p.size ≤ 1048576) (hs : Sl w w.heap.size A n (fun i => .string (s i))) (hml : MaxL w) :
    Calls Tryz.prog 25 #[.slice A n c, .string p] w (LsOut n s p w) := by
  have HNM := Lib.hid (namesOf_any hp hml)
  have HS := Lib.hid hs
  have hz := tCode_zero (n := n) (s := s)
  have HAA := Lib.hid (fun (W : World) (B : Option Addr) (hW : Sl W W.heap.size B n (fun i => .string (s i))) => access_any (c := c) hm hW)
  clear hs hml
  by_cases hp0 : p = ⟨#[]⟩
  · have t0 : (p.toList == (⟨#[]⟩ : ByteArray).toList) = true := str_eq_true hp0
    have t0' : p.toList.isEmpty = true := by rw [hp0]; simp
    have hls := lsAt_root (n := n) (s := s)
    rw [← hp0] at hls
    have HN1 := Lib.hid (HNM.out.mono (R' := fun e w' => ∃ v b, e = .returned (.tuple #[v, .bool b]) ∧ Below w.heap.size w w') (fun e w' h => by
      obtain ⟨hb, ⟨_, h⟩ | ⟨N', B, d, h, h2, h3, h4⟩⟩ := h
      · exact ⟨_, _, h, hb⟩
      · exact ⟨_, _, h2, hb⟩))
    by_cases h0 : tCode n s = 0
    · obtain ⟨⟨h4, hn, _⟩, hwk⟩ := hz h0
      obtain ⟨u, hu⟩ : ∃ u : Nat → Nat → UInt8, (fun i => byteAt (s i)) = u := ⟨_, rfl⟩
      rw [hu] at hwk HAA
      have hdda := dd_root (u := u) (by omega) hn hwk
      rw [h0] at hls HAA
      have HLA := Lib.hid hls
      have HU := Lib.hid hu
      have HAK := Lib.hid (fun (W : World) (B : Option Addr) (hW : Sl W W.heap.size B n (fun i => .string (s i))) => (HAA.out W B hW).mono (R' := fun e w' => ∃ gp gr bl cp, e = .returned (.tuple #[.pointer (some ⟨gp, 0, none⟩), .int .i64 0]) ∧ TreD w' gp gr n W.heap.size bl cp u ∧ Below W.heap.size W w') (fun e w' h => by
        obtain ⟨hb, ⟨h, _⟩ | ⟨_, gp, gr, bl, cp, h1, h2⟩⟩ := h
        · exact absurd rfl h
        · exact ⟨gp, gr, bl, cp, h1, h2, hb⟩))
      have HFO := Lib.hid (fun (W : World) (gp gr B : Nat) (bl cp : Nat → Nat) (ht : TreD W gp gr n B bl cp u) => folder_any (A := none) (c := 0) (N := []) (m := 0) ht (by omega) hn hdda rfl (by omega) (fun x hx => by cases hx) Sl.nil)
      clear hu hls hwk h0 hz HAA hp0
      obtain ⟨a, ha⟩ : ∃ a, a = 0 := ⟨_, rfl⟩
      rw [← ha] at hdda
      rw [show ((0 : Nat), (0 : Nat)) = (0, a) by rw [ha]] at HLA
      have HFO2 := Lib.hid (fun (W : World) (gp gr B : Nat) (bl cp : Nat → Nat) (ht : TreD W gp gr n B bl cp u) => (HFO.out W gp gr B bl cp ht).mono (R' := fun e w' => e = .returned (.tuple #[.int .i64 (a : Int), .int .i64 0]) ∧ W = w') (fun e w' h => by rw [ha]; exact h))
      clear ha HFO
      go_enter Tryz.func25, Tryz.ntmps25
      go_upto_region 4 with (go_at_call 65; refine HN1.out.mono ?_; rintro e w1 ⟨v, bv, rfl, hb1⟩)
      have HB1 := Lib.hid hb1
      have HAC := Lib.hid (HAK.out _ _ ((HS.out.below hb1).more hb1.size))
      clear hb1
      go_upto_region 7 with (go_at_call 48; refine HAC.out.mono ?_; rintro e w2 ⟨gp, gr, bl, cp, rfl, ht, hb2⟩)
      have HT2 := Lib.hid ht
      have HBW2 := Lib.hid (HB1.out.trans (hb2.mono HB1.out.size))
      have HC := Lib.hid (HFO2.out _ _ _ _ _ _ ht)
      clear ht hb2
      go_upto_region 10 with (go_at_call 66; refine HC.out.mono ?_; rintro e w' ⟨rfl, hw'⟩; rw [← hw']; clear hw' w')
      have HDDA := Lib.hid hdda
      have hT := tTab_le a
      have htr2 := HT2.out
      have han := hdda.1
      have hai : (a : Int) < (n : Int) := by omega
      have HTBL := Lib.hid (fun (W : World) (hW : TreD W gp gr n w1.heap.size bl cp u) => table_any (hW.row han) (hW.2 a han) hdda.2.2)
      have HLS := Lib.hid (lsD_succ u a)
      have HLE := Lib.hid (lsD_len hdda)
      have HCH := Lib.hid (fun (k : Nat) (hk : k < 8) => hdda.chain hk)
      obtain ⟨t, ht'⟩ : ∃ t, tTab a = t := ⟨_, rfl⟩
      rw [ht'] at HTBL hT HLS HCH
      obtain ⟨cap, k1⟩ := htr2.ptr
      have k2 := htr2.blk han
      obtain ⟨ga, hga⟩ : ∃ g, bl a = g := ⟨_, rfl⟩
      obtain ⟨ca, hca⟩ : ∃ g, cp a = g := ⟨_, rfl⟩
      rw [hga] at HTBL k2
      rw [hca] at HTBL k2
      have HGA := Lib.hid hga
      clear hdda ht' htr2 hga hca
      go_upto_region 12 with (go_at_call 56; refine (HTBL.out _ HT2.out).mono ?_; rintro e w' ⟨rfl, hw'⟩; rw [← hw']; clear hw' w')
      clear k1 k2
      go_loopw [11, 50] (fun s11 s50 wr => ∃ (h c' : Nat) (A' : Option Addr), h ≤ 8 ∧ s50 = .int .i64 (h : Int) ∧ s11 = .slice A' (lsD u a h).length c' ∧ StrR w2.heap.size wr A' c' (lsD u a h) ∧ Below w2.heap.size w2 wr) (fun _ s _ => 8 - (intOf s).toNat)
      case atStart => exact ⟨0, 0, none, by omega, rfl, rfl, World.ownsRow_nil _ _ _ _, Below.refl _ _⟩
      case round =>
        obtain ⟨h, c', A', hh, rfl, rfl, hr, hb⟩ := hrel
        have HR := Lib.hid hr
        have HB := Lib.hid hb
        clear hr hb
        by_cases hlt : h < 8
        · have hhi : (h : Int) < 8 := by omega
          obtain ⟨l0, hl0, _, hl2⟩ := HCH.out h hlt
          have hls' := HLS.out h
          have hle := HLE.out (h + 1) (by omega)
          have htr := HT2.out.below HB.out
          have c3 := (htr.row han).cell (i := t + h) (by omega)
          rw [HGA.out] at c3
          obtain ⟨b0, hb0⟩ : ∃ b, (u a (t + h)).toNat = b := ⟨_, rfl⟩
          have hb1 : b0 < 256 := by rw [← hb0]; exact UInt8.toNat_lt _
          rw [hb0] at hl0 hls' c3
          obtain ⟨cur0, hc0⟩ : ∃ l, lsD u a h = l := ⟨_, rfl⟩
          rw [hc0] at HR hls' ⊢
          obtain ⟨T, hTT⟩ : ∃ T, lsD u a (h + 1) = T := ⟨_, rfl⟩
          rw [hTT] at hls' hle
          have hTl : T.length ≤ 3000 := by omega
          have hput : cur0 ++ (l0.map fun x => lsName (u x)) = T := by
            rw [hls']
            unfold lsC
            rw [lkL_eq hl0]
          have HTT := Lib.hid hTT
          have HL := Lib.hid (show ∃ l, Lnk (nx2 u) b0 l ∧ (∀ x ∈ l, EE n u a x) ∧ cur0 ++ (l.map fun x => lsName (u x)) = T from ⟨l0, hl0, fun x hx => (hl2 x hx).1, hput⟩)
          obtain ⟨m0, hm0⟩ : ∃ m, cur0.length = m := ⟨_, rfl⟩
          have HM0 := Lib.hid hm0
          rw [hm0]
          clear hl0 hl2 hls' hle hput hTT hc0 htr hb0 hm0
          go_wp2_with fail
          go_loopw [11, 14] (fun s11 s14 wy => ∃ (b c2 : Nat) (A2 : Option Addr) (l : List Nat) (cur : List ByteArray), b < 256 ∧ s14 = .int .i64 (b : Int) ∧ Lnk (nx2 u) b l ∧ (∀ x ∈ l, EE n u a x) ∧ cur ++ (l.map fun x => lsName (u x)) = T ∧ s11 = .slice A2 cur.length c2 ∧ StrR w2.heap.size wy A2 c2 cur ∧ Below w2.heap.size w2 wy) (fun _ s _ => (lkL (nx2 u) (intOf s).toNat).length)
          case atStart =>
            obtain ⟨l, h1, h2, h3⟩ := HL.out
            exact ⟨b0, c', A', l, cur0, hb1, rfl, h1, h2, h3, by rw [HM0.out], HR.out, HB.out⟩
          case round =>
            obtain ⟨b, c2, A2, l, cur, hb, rfl, h1, h2, h3, rfl, hr, hbw⟩ := hrel
            have HB2 := Lib.hid hbw
            have HR2 := Lib.hid hr
            have htr := HT2.out.below hbw
            have hzr : w2.heap.size ≤ wr.heap.size := hbw.size
            have hcl : cur.length + l.length = T.length := by rw [← h3, List.length_append, List.length_map]
            have hcm : cur.length ≤ 3000 := by omega
            obtain ⟨m2, hm2⟩ : ∃ m, cur.length = m := ⟨_, rfl⟩
            have HM2 := Lib.hid hm2
            rw [hm2] at hcm ⊢
            clear hr hbw hcl hm2 c3
            by_cases h0 : b = 0
            · subst h0
              obtain rfl := h1.zero
              rw [List.map_nil, List.append_nil] at h3
              have H4 := Lib.hid h3
              clear h1 h2 h3
              go_wp2_with fail
              go_roundw
              case rel =>
                have e4 := H4.out
                subst e4
                exact ⟨h + 1, c2, A2, by omega, by go_num, by rw [HTT.out, HM2.out], by rw [HTT.out]; exact HR2.out, HB2.out⟩
              case measure => simp [intOf]; omega
            · obtain ⟨l', rfl, h5⟩ := h1.step h0
              have hE := h2 b List.mem_cons_self
              have hbn := hE.lt
              obtain ⟨cap2, k1⟩ := htr.ptr
              have k2 := htr.blk hbn
              have hrow := htr.row hbn
              have HNO := Lib.hid (nameOf_any hrow (htr.2 b hbn))
              have k3 := hrow.cell (i := 2) (by omega)
              have k0 := hrow.cell (i := 0) (by omega)
              obtain ⟨b2, hb2⟩ : ∃ b', (u b 2).toNat = b' := ⟨_, rfl⟩
              have hb3 : b2 < 256 := by rw [← hb2]; exact UInt8.toNat_lt _
              have hnx : nx2 u b = b2 := hb2
              rw [hb2] at k3
              rw [hnx] at h5
              obtain ⟨y0, hy0⟩ : ∃ y, (u b 0).toNat = y := ⟨_, rfl⟩
              have hy2 : y0 < 256 := by rw [← hy0]; exact UInt8.toNat_lt _
              rw [hy0] at k0
              have t1 : ((b : Int) != 0) = true := by simp; omega
              have hki : (b : Int) < (n : Int) := by omega
              have hysz : (tnm (u b)).size ≤ 8 := by rw [tnm_size]; exact tN_le _
              have h6 : (cur ++ [lsName (u b)]) ++ (l'.map fun x => lsName (u x)) = T := by rw [← h3, List.append_assoc]; rfl
              have HG2 := Lib.hid (show ∀ x ∈ l', EE n u a x from fun x hx => h2 x (List.mem_cons_of_mem _ hx))
              have H5 := Lib.hid h5
              have H1 := Lib.hid h1
              have HNX := Lib.hid hb2
              have HSR := Lib.hid (show ∀ (W : World) (A4 : Addr) (c4 : Nat) (z : ByteArray), W.ownsRow w2.heap.size 9 1 (.slice (some A4) (m2 + 1) c4) (m2 + 1) (cur.map Value.string ++ [.string z]) → StrR w2.heap.size W (some A4) c4 (cur ++ [z]) from fun W A4 c4 z h => by
                unfold StrR
                rw [List.length_append, List.map_append, HM2.out]
                exact h)
              have HR3 := Lib.hid (show wr.ownsRow w2.heap.size 9 1 (.slice A2 m2 c2) m2 (cur.map Value.string) by have := HR2.out; unfold StrR at this; rwa [HM2.out] at this)
              by_cases h4 : u b 0 = 4
              · have hy4 : y0 = 4 := by rw [← hy0, h4]; first | done | rfl
                have t4 : ((y0 : Int) == 4) = true := by simp; omega
                have hln : lsName (u b) = tnm (u b) ++ slashB := if_pos h4
                rw [hln] at h6
                obtain ⟨y, hy⟩ : ∃ y, tnm (u b) = y := ⟨_, rfl⟩
                rw [hy] at HNO hysz h6
                have hadd : ∀ W : World, (Op.stringOp .add y ⟨#[47]⟩).run Tryz.prog W = .ok (.string (y ++ ⟨#[47]⟩)) W := fun W => run_string_add_sum _ _ _ (by have : (⟨#[47]⟩ : ByteArray).size = 1 := rfl; omega)
                obtain ⟨z, hz'⟩ : ∃ z, y ++ (⟨#[47]⟩ : ByteArray) = z := ⟨_, rfl⟩
                rw [hz'] at hadd
                have hz'' : y ++ slashB = z := hz'
                rw [hz''] at h6
                have H6 := Lib.hid h6
                clear h1 h2 h3 h5 hE hy h6 hnx hy4 h4 hln hz' hz'' hb2 hy0 htr hrow
                go_upto_region 16 with (first
                  | (go_at_call 67; refine HNO.out.mono ?_; rintro e w' ⟨rfl, hw'⟩; rw [← hw']; clear hw' w')
                  | (at_builtin; refine wpList_pushT (.tmp 88) (.tmp 90) 22 w2.heap.size 9 (.string .empty) [.string z] 1 16 _ m2 _ HR3.out rfl rfl Tryz.underlying22 infoStr rfl (by omega) rfl rfl rfl rfl (by intro u hu; simp at hu; subst hu; rfl) (by omega) (by omega) hzr ?_; intro A4 c4 w4 ho4 hg4))
                have hb4 : Below w2.heap.size w2 w4 := HB2.out.trans (below_grown hg4 (fun j e => (HR3.out.lt j e).1) hzr)
                have htr4 := HT2.out.below hb4
                obtain ⟨cap4, k1⟩ := htr4.ptr
                have k2 := htr4.blk hbn
                have k3 := (htr4.row hbn).cell (i := 2) (by omega)
                rw [HNX.out] at k3
                have HO4 := Lib.hid (HSR.out _ _ _ _ ho4)
                have HB4 := Lib.hid hb4
                clear ho4 hg4 hb4 htr4 k0
                go_wp2_with fail
                go_roundw
                case rel => exact ⟨b2, c4, some A4, l', cur ++ [z], hb3, by go_num, H5.out, HG2.out, H6.out, by rw [List.length_append, HM2.out]; rfl, HO4.out, HB4.out⟩
                case measure =>
                  show (lkL (nx2 u) b2).length < (lkL (nx2 u) b).length
                  rw [lkL_eq H1.out, lkL_eq H5.out, List.length_cons]
                  omega
              · have hy4 : y0 ≠ 4 := fun e => h4 ((u8_is 4 hy0).2 e)
                have t4 : ((y0 : Int) == 4) = false := by simp; omega
                have hln : lsName (u b) = tnm (u b) := if_neg h4
                rw [hln] at h6
                obtain ⟨z, hy⟩ : ∃ y, tnm (u b) = y := ⟨_, rfl⟩
                rw [hy] at HNO hysz h6
                have H6 := Lib.hid h6
                clear h1 h2 h3 h5 hE hy h6 hnx h4 hln hb2 hy0 htr hrow
                go_upto_region 16 with (first
                  | (go_at_call 67; refine HNO.out.mono ?_; rintro e w' ⟨rfl, hw'⟩; rw [← hw']; clear hw' w')
                  | (at_builtin; refine wpList_pushT (.tmp 88) (.tmp 90) 22 w2.heap.size 9 (.string .empty) [.string z] 1 16 _ m2 _ HR3.out rfl rfl Tryz.underlying22 infoStr rfl (by omega) rfl rfl rfl rfl (by intro u hu; simp at hu; subst hu; rfl) (by omega) (by omega) hzr ?_; intro A4 c4 w4 ho4 hg4))
                have hb4 : Below w2.heap.size w2 w4 := HB2.out.trans (below_grown hg4 (fun j e => (HR3.out.lt j e).1) hzr)
                have htr4 := HT2.out.below hb4
                obtain ⟨cap4, k1⟩ := htr4.ptr
                have k2 := htr4.blk hbn
                have k3 := (htr4.row hbn).cell (i := 2) (by omega)
                rw [HNX.out] at k3
                have HO4 := Lib.hid (HSR.out _ _ _ _ ho4)
                have HB4 := Lib.hid hb4
                clear ho4 hg4 hb4 htr4 k0
                go_wp2_with fail
                go_roundw
                case rel => exact ⟨b2, c4, some A4, l', cur ++ [z], hb3, by go_num, H5.out, HG2.out, H6.out, by rw [List.length_append, HM2.out]; rfl, HO4.out, HB4.out⟩
                case measure =>
                  show (lkL (nx2 u) b2).length < (lkL (nx2 u) b).length
                  rw [lkL_eq H1.out, lkL_eq H5.out, List.length_cons]
                  omega
        · obtain rfl : h = 8 := by omega
          have hle := HLE.out 8 (Nat.le_refl _)
          have HSO := Lib.hid (sortTx_any (w0 := w2) HR.out HB.out (by omega))
          have hpl := putL_len [] (lsD u a 8)
          obtain ⟨m8, hm8⟩ : ∃ m, (lsD u a 8).length = m := ⟨_, rfl⟩
          rw [hm8] at HSO hpl ⊢
          have HPL := Lib.hid hpl
          clear hle hm8 hpl
          go_wp2_with (go_at_call 49; refine HSO.out.mono ?_; rintro e w7 ⟨rfl, hs7, hb7⟩)
          go_ret2
          exact LsOut.good HU.out HLA.out (by have := HPL.out; simp at this; omega) (own_base hs7 HBW2.out.size) (HBW2.out.trans (hb7.mono HBW2.out.size))
    · have HAK := Lib.hid (fun (W : World) (B : Option Addr) (hW : Sl W W.heap.size B n (fun i => .string (s i))) => (HAA.out W B hW).mono (R' := fun e w' => e = .returned (.tuple #[.pointer none, .int .i64 (tCode n s : Nat)]) ∧ Below W.heap.size W w') (fun e w' h => by
        obtain ⟨hb, ⟨_, h⟩ | ⟨h, _⟩⟩ := h
        · exact ⟨h, hb⟩
        · exact absurd h h0))
      obtain ⟨code, hcode⟩ : ∃ k, tCode n s = k := ⟨_, rfl⟩
      rw [hcode] at h0 hls HAK
      have HLA := Lib.hid hls
      have t1 : ((code : Int) != 0) = true := by simp; omega
      clear hls hz HAA hp0 hcode
      go_enter Tryz.func25, Tryz.ntmps25
      go_upto_region 4 with (go_at_call 65; refine HN1.out.mono ?_; rintro e w1 ⟨v, bv, rfl, hb1⟩)
      have HB1 := Lib.hid hb1
      have HAC := Lib.hid (HAK.out _ _ ((HS.out.below hb1).more hb1.size))
      clear hb1
      go_wp2_with (go_at_call 48; refine HAC.out.mono ?_; rintro e w2 ⟨rfl, hb2⟩)
      go_ret2
      exact LsOut.bad HLA.out h0 (World.ownsRow_nil _ _ _ _) (HB1.out.trans (hb2.mono HB1.out.size))
  · have t0 : (p.toList == (⟨#[]⟩ : ByteArray).toList) = false := str_eq_false hp0
    have t0' : p.toList.isEmpty = false := by
      have hne : p.toList ≠ [] := fun e => hp0 (by
        apply ByteArray.ext
        apply Array.ext'
        have h2 := e
        rw [ByteArray.toList_eq] at h2
        simpa using h2)
      simpa using hne
    cases hpt : pathT p with
    | none =>
      have hls := lsAt_none (n := n) (s := s) hp0 hpt
      have HN1 := Lib.hid (HNM.out.mono (R' := fun e w' => e = .returned (.tuple #[.slice none 0 0, .bool false]) ∧ Below w.heap.size w w') (fun e w' h => by
        obtain ⟨hb, ⟨_, h⟩ | ⟨N, _, _, h, _⟩⟩ := h
        · exact ⟨h, hb⟩
        · rw [hpt] at h; cases h))
      have HLA := Lib.hid hls
      clear hls hz HAA hp0 hpt
      go_enter Tryz.func25, Tryz.ntmps25
      go_upto_region 4 with (go_at_call 65; refine HN1.out.mono ?_; rintro e w1 ⟨rfl, hb1⟩)
      have HAC := Lib.hid (access_shut (c := c) hm ((HS.out.below hb1).more hb1.size))
      have HB1 := Lib.hid hb1
      clear hb1
      go_wp2_with (go_at_call 48; refine HAC.out.mono ?_; rintro e w' ⟨rfl, hw'⟩; rw [hw']; clear hw' w')
      go_ret2
      exact LsOut.bad (k := 1) HLA.out (by decide) (World.ownsRow_nil _ _ _ _) HB1.out
    | some N =>
      obtain ⟨_, hN4, hN0, hNN⟩ := pathT_some hpt
      have HN1 := Lib.hid (HNM.out.mono (R' := fun e w' => ∃ (B : Option Addr) (d : Nat), e = .returned (.tuple #[.slice B N.length d, .bool true]) ∧ Sl w' w'.heap.size B N.length (fun i => .string (N.getD i ⟨#[]⟩)) ∧ Below w.heap.size w w') (fun e w' h => by
        obtain ⟨hb, ⟨h, _⟩ | ⟨N', B, d, h, h2, h3, h4⟩⟩ := h
        · rw [hpt] at h; cases h
        · rw [hpt] at h
          injection h with h
          subst h
          exact ⟨B, d, h2, h4, hb⟩))
      have hlc := lsAt_code (n := n) (s := s) hp0 hpt
      have hlf := lsAt_fold (n := n) (s := s) hp0 hpt
      by_cases h0 : tCode n s = 0
      · obtain ⟨⟨h4, hn, _⟩, hwk⟩ := hz h0
        obtain ⟨u, hu⟩ : ∃ u : Nat → Nat → UInt8, (fun i => byteAt (s i)) = u := ⟨_, rfl⟩
        rw [hu] at hwk HAA hlf
        have hdd := dd_root (u := u) (by omega) hn hwk
        have hls := hlf h0
        rw [h0] at HAA
        have HU := Lib.hid hu
        have HAK := Lib.hid (fun (W : World) (B : Option Addr) (hW : Sl W W.heap.size B n (fun i => .string (s i))) => (HAA.out W B hW).mono (R' := fun e w' => ∃ gp gr bl cp, e = .returned (.tuple #[.pointer (some ⟨gp, 0, none⟩), .int .i64 0]) ∧ TreD w' gp gr n W.heap.size bl cp u ∧ Below W.heap.size W w') (fun e w' h => by
          obtain ⟨hb, ⟨h, _⟩ | ⟨_, gp, gr, bl, cp, h1, h2⟩⟩ := h
          · exact absurd rfl h
          · exact ⟨gp, gr, bl, cp, h1, h2, hb⟩))
        have HNZ := Lib.hid (show ∀ x ∈ N, x.size ≤ 1048576 from fun x hx => nameS_size (hNN x hx))
        have hfd := tFold_dd (u := u) N hdd
        obtain ⟨L, hL⟩ : ∃ L, N.length = L := ⟨_, rfl⟩
        rw [hL] at HN1 hN4
        have HFO := Lib.hid (fun (W : World) (gp gr B c2 : Nat) (bl cp : Nat → Nat) (B2 : Option Addr) (ht : TreD W gp gr n B bl cp u) (hsl : Sl W W.heap.size B2 L (fun i => .string (N.getD i ⟨#[]⟩))) => folder_any (c := c2) ht (by omega) hn hdd hL.symm (by omega) HNZ.out hsl)
        obtain ⟨F, hF⟩ : ∃ F, tFold u N 0 = F := ⟨_, rfl⟩
        have hFl : F.2 ≤ 6 := by rw [← hF]; exact tFold_le _ _
        rw [hF] at HFO hls hfd
        obtain ⟨a, fc⟩ := F
        dsimp only at HFO hls hfd hFl
        have HLA := Lib.hid hls
        clear hlc hlf hls hu hwk h0 hz HAA hp0 hpt hNN hF hL hdd
        by_cases hf : fc = 0
        · subst hf
          rw [if_pos rfl] at HFO
          have hdda := hfd rfl
          go_enter Tryz.func25, Tryz.ntmps25
          go_upto_region 4 with (go_at_call 65; refine HN1.out.mono ?_; rintro e w1 ⟨B, d, rfl, hsl1, hb1⟩)
          have HSL1 := Lib.hid hsl1
          have HB1 := Lib.hid hb1
          have HAC := Lib.hid (HAK.out _ _ ((HS.out.below hb1).more hb1.size))
          clear hsl1 hb1
          go_upto_region 7 with (go_at_call 48; refine HAC.out.mono ?_; rintro e w2 ⟨gp, gr, bl, cp, rfl, ht, hb2⟩)
          have HT2 := Lib.hid ht
          have HBW2 := Lib.hid (HB1.out.trans (hb2.mono HB1.out.size))
          have HC := Lib.hid (HFO.out _ _ _ _ d _ _ _ ht ((HSL1.out.below hb2).more hb2.size))
          clear ht hb2
          go_upto_region 10 with (go_at_call 66; refine HC.out.mono ?_; rintro e w' ⟨rfl, hw'⟩; rw [← hw']; clear hw' w')
          have HDDA := Lib.hid hdda
          have hT := tTab_le a
          have htr2 := HT2.out
          have han := hdda.1
          have hai : (a : Int) < (n : Int) := by omega
          have HTBL := Lib.hid (fun (W : World) (hW : TreD W gp gr n w1.heap.size bl cp u) => table_any (hW.row han) (hW.2 a han) hdda.2.2)
          have HLS := Lib.hid (lsD_succ u a)
          have HLE := Lib.hid (lsD_len hdda)
          have HCH := Lib.hid (fun (k : Nat) (hk : k < 8) => hdda.chain hk)
          obtain ⟨t, ht'⟩ : ∃ t, tTab a = t := ⟨_, rfl⟩
          rw [ht'] at HTBL hT HLS HCH
          obtain ⟨cap, k1⟩ := htr2.ptr
          have k2 := htr2.blk han
          obtain ⟨ga, hga⟩ : ∃ g, bl a = g := ⟨_, rfl⟩
          obtain ⟨ca, hca⟩ : ∃ g, cp a = g := ⟨_, rfl⟩
          rw [hga] at HTBL k2
          rw [hca] at HTBL k2
          have HGA := Lib.hid hga
          clear hdda ht' htr2 hga hca
          go_upto_region 12 with (go_at_call 56; refine (HTBL.out _ HT2.out).mono ?_; rintro e w' ⟨rfl, hw'⟩; rw [← hw']; clear hw' w')
          clear k1 k2
          go_loopw [11, 50] (fun s11 s50 wr => ∃ (h c' : Nat) (A' : Option Addr), h ≤ 8 ∧ s50 = .int .i64 (h : Int) ∧ s11 = .slice A' (lsD u a h).length c' ∧ StrR w2.heap.size wr A' c' (lsD u a h) ∧ Below w2.heap.size w2 wr) (fun _ s _ => 8 - (intOf s).toNat)
          case atStart => exact ⟨0, 0, none, by omega, rfl, rfl, World.ownsRow_nil _ _ _ _, Below.refl _ _⟩
          case round =>
            obtain ⟨h, c', A', hh, rfl, rfl, hr, hb⟩ := hrel
            have HR := Lib.hid hr
            have HB := Lib.hid hb
            clear hr hb
            by_cases hlt : h < 8
            · have hhi : (h : Int) < 8 := by omega
              obtain ⟨l0, hl0, _, hl2⟩ := HCH.out h hlt
              have hls' := HLS.out h
              have hle := HLE.out (h + 1) (by omega)
              have htr := HT2.out.below HB.out
              have c3 := (htr.row han).cell (i := t + h) (by omega)
              rw [HGA.out] at c3
              obtain ⟨b0, hb0⟩ : ∃ b, (u a (t + h)).toNat = b := ⟨_, rfl⟩
              have hb1 : b0 < 256 := by rw [← hb0]; exact UInt8.toNat_lt _
              rw [hb0] at hl0 hls' c3
              obtain ⟨cur0, hc0⟩ : ∃ l, lsD u a h = l := ⟨_, rfl⟩
              rw [hc0] at HR hls' ⊢
              obtain ⟨T, hTT⟩ : ∃ T, lsD u a (h + 1) = T := ⟨_, rfl⟩
              rw [hTT] at hls' hle
              have hTl : T.length ≤ 3000 := by omega
              have hput : cur0 ++ (l0.map fun x => lsName (u x)) = T := by
                rw [hls']
                unfold lsC
                rw [lkL_eq hl0]
              have HTT := Lib.hid hTT
              have HL := Lib.hid (show ∃ l, Lnk (nx2 u) b0 l ∧ (∀ x ∈ l, EE n u a x) ∧ cur0 ++ (l.map fun x => lsName (u x)) = T from ⟨l0, hl0, fun x hx => (hl2 x hx).1, hput⟩)
              obtain ⟨m0, hm0⟩ : ∃ m, cur0.length = m := ⟨_, rfl⟩
              have HM0 := Lib.hid hm0
              rw [hm0]
              clear hl0 hl2 hls' hle hput hTT hc0 htr hb0 hm0
              go_wp2_with fail
              go_loopw [11, 14] (fun s11 s14 wy => ∃ (b c2 : Nat) (A2 : Option Addr) (l : List Nat) (cur : List ByteArray), b < 256 ∧ s14 = .int .i64 (b : Int) ∧ Lnk (nx2 u) b l ∧ (∀ x ∈ l, EE n u a x) ∧ cur ++ (l.map fun x => lsName (u x)) = T ∧ s11 = .slice A2 cur.length c2 ∧ StrR w2.heap.size wy A2 c2 cur ∧ Below w2.heap.size w2 wy) (fun _ s _ => (lkL (nx2 u) (intOf s).toNat).length)
              case atStart =>
                obtain ⟨l, h1, h2, h3⟩ := HL.out
                exact ⟨b0, c', A', l, cur0, hb1, rfl, h1, h2, h3, by rw [HM0.out], HR.out, HB.out⟩
              case round =>
                obtain ⟨b, c2, A2, l, cur, hb, rfl, h1, h2, h3, rfl, hr, hbw⟩ := hrel
                have HB2 := Lib.hid hbw
                have HR2 := Lib.hid hr
                have htr := HT2.out.below hbw
                have hzr : w2.heap.size ≤ wr.heap.size := hbw.size
                have hcl : cur.length + l.length = T.length := by rw [← h3, List.length_append, List.length_map]
                have hcm : cur.length ≤ 3000 := by omega
                obtain ⟨m2, hm2⟩ : ∃ m, cur.length = m := ⟨_, rfl⟩
                have HM2 := Lib.hid hm2
                rw [hm2] at hcm ⊢
                clear hr hbw hcl hm2 c3
                by_cases h0 : b = 0
                · subst h0
                  obtain rfl := h1.zero
                  rw [List.map_nil, List.append_nil] at h3
                  have H4 := Lib.hid h3
                  clear h1 h2 h3
                  go_wp2_with fail
                  go_roundw
                  case rel =>
                    have e4 := H4.out
                    subst e4
                    exact ⟨h + 1, c2, A2, by omega, by go_num, by rw [HTT.out, HM2.out], by rw [HTT.out]; exact HR2.out, HB2.out⟩
                  case measure => simp [intOf]; omega
                · obtain ⟨l', rfl, h5⟩ := h1.step h0
                  have hE := h2 b List.mem_cons_self
                  have hbn := hE.lt
                  obtain ⟨cap2, k1⟩ := htr.ptr
                  have k2 := htr.blk hbn
                  have hrow := htr.row hbn
                  have HNO := Lib.hid (nameOf_any hrow (htr.2 b hbn))
                  have k3 := hrow.cell (i := 2) (by omega)
                  have k0 := hrow.cell (i := 0) (by omega)
                  obtain ⟨b2, hb2⟩ : ∃ b', (u b 2).toNat = b' := ⟨_, rfl⟩
                  have hb3 : b2 < 256 := by rw [← hb2]; exact UInt8.toNat_lt _
                  have hnx : nx2 u b = b2 := hb2
                  rw [hb2] at k3
                  rw [hnx] at h5
                  obtain ⟨y0, hy0⟩ : ∃ y, (u b 0).toNat = y := ⟨_, rfl⟩
                  have hy2 : y0 < 256 := by rw [← hy0]; exact UInt8.toNat_lt _
                  rw [hy0] at k0
                  have t1 : ((b : Int) != 0) = true := by simp; omega
                  have hki : (b : Int) < (n : Int) := by omega
                  have hysz : (tnm (u b)).size ≤ 8 := by rw [tnm_size]; exact tN_le _
                  have h6 : (cur ++ [lsName (u b)]) ++ (l'.map fun x => lsName (u x)) = T := by rw [← h3, List.append_assoc]; rfl
                  have HG2 := Lib.hid (show ∀ x ∈ l', EE n u a x from fun x hx => h2 x (List.mem_cons_of_mem _ hx))
                  have H5 := Lib.hid h5
                  have H1 := Lib.hid h1
                  have HNX := Lib.hid hb2
                  have HSR := Lib.hid (show ∀ (W : World) (A4 : Addr) (c4 : Nat) (z : ByteArray), W.ownsRow w2.heap.size 9 1 (.slice (some A4) (m2 + 1) c4) (m2 + 1) (cur.map Value.string ++ [.string z]) → StrR w2.heap.size W (some A4) c4 (cur ++ [z]) from fun W A4 c4 z h => by
                    unfold StrR
                    rw [List.length_append, List.map_append, HM2.out]
                    exact h)
                  have HR3 := Lib.hid (show wr.ownsRow w2.heap.size 9 1 (.slice A2 m2 c2) m2 (cur.map Value.string) by have := HR2.out; unfold StrR at this; rwa [HM2.out] at this)
                  by_cases h4 : u b 0 = 4
                  · have hy4 : y0 = 4 := by rw [← hy0, h4]; first | done | rfl
                    have t4 : ((y0 : Int) == 4) = true := by simp; omega
                    have hln : lsName (u b) = tnm (u b) ++ slashB := if_pos h4
                    rw [hln] at h6
                    obtain ⟨y, hy⟩ : ∃ y, tnm (u b) = y := ⟨_, rfl⟩
                    rw [hy] at HNO hysz h6
                    have hadd : ∀ W : World, (Op.stringOp .add y ⟨#[47]⟩).run Tryz.prog W = .ok (.string (y ++ ⟨#[47]⟩)) W := fun W => run_string_add_sum _ _ _ (by have : (⟨#[47]⟩ : ByteArray).size = 1 := rfl; omega)
                    obtain ⟨z, hz'⟩ : ∃ z, y ++ (⟨#[47]⟩ : ByteArray) = z := ⟨_, rfl⟩
                    rw [hz'] at hadd
                    have hz'' : y ++ slashB = z := hz'
                    rw [hz''] at h6
                    have H6 := Lib.hid h6
                    clear h1 h2 h3 h5 hE hy h6 hnx hy4 h4 hln hz' hz'' hb2 hy0 htr hrow
                    go_upto_region 16 with (first
                      | (go_at_call 67; refine HNO.out.mono ?_; rintro e w' ⟨rfl, hw'⟩; rw [← hw']; clear hw' w')
                      | (at_builtin; refine wpList_pushT (.tmp 88) (.tmp 90) 22 w2.heap.size 9 (.string .empty) [.string z] 1 16 _ m2 _ HR3.out rfl rfl Tryz.underlying22 infoStr rfl (by omega) rfl rfl rfl rfl (by intro u hu; simp at hu; subst hu; rfl) (by omega) (by omega) hzr ?_; intro A4 c4 w4 ho4 hg4))
                    have hb4 : Below w2.heap.size w2 w4 := HB2.out.trans (below_grown hg4 (fun j e => (HR3.out.lt j e).1) hzr)
                    have htr4 := HT2.out.below hb4
                    obtain ⟨cap4, k1⟩ := htr4.ptr
                    have k2 := htr4.blk hbn
                    have k3 := (htr4.row hbn).cell (i := 2) (by omega)
                    rw [HNX.out] at k3
                    have HO4 := Lib.hid (HSR.out _ _ _ _ ho4)
                    have HB4 := Lib.hid hb4
                    clear ho4 hg4 hb4 htr4 k0
                    go_wp2_with fail
                    go_roundw
                    case rel => exact ⟨b2, c4, some A4, l', cur ++ [z], hb3, by go_num, H5.out, HG2.out, H6.out, by rw [List.length_append, HM2.out]; rfl, HO4.out, HB4.out⟩
                    case measure =>
                      show (lkL (nx2 u) b2).length < (lkL (nx2 u) b).length
                      rw [lkL_eq H1.out, lkL_eq H5.out, List.length_cons]
                      omega
                  · have hy4 : y0 ≠ 4 := fun e => h4 ((u8_is 4 hy0).2 e)
                    have t4 : ((y0 : Int) == 4) = false := by simp; omega
                    have hln : lsName (u b) = tnm (u b) := if_neg h4
                    rw [hln] at h6
                    obtain ⟨z, hy⟩ : ∃ y, tnm (u b) = y := ⟨_, rfl⟩
                    rw [hy] at HNO hysz h6
                    have H6 := Lib.hid h6
                    clear h1 h2 h3 h5 hE hy h6 hnx h4 hln hb2 hy0 htr hrow
                    go_upto_region 16 with (first
                      | (go_at_call 67; refine HNO.out.mono ?_; rintro e w' ⟨rfl, hw'⟩; rw [← hw']; clear hw' w')
                      | (at_builtin; refine wpList_pushT (.tmp 88) (.tmp 90) 22 w2.heap.size 9 (.string .empty) [.string z] 1 16 _ m2 _ HR3.out rfl rfl Tryz.underlying22 infoStr rfl (by omega) rfl rfl rfl rfl (by intro u hu; simp at hu; subst hu; rfl) (by omega) (by omega) hzr ?_; intro A4 c4 w4 ho4 hg4))
                    have hb4 : Below w2.heap.size w2 w4 := HB2.out.trans (below_grown hg4 (fun j e => (HR3.out.lt j e).1) hzr)
                    have htr4 := HT2.out.below hb4
                    obtain ⟨cap4, k1⟩ := htr4.ptr
                    have k2 := htr4.blk hbn
                    have k3 := (htr4.row hbn).cell (i := 2) (by omega)
                    rw [HNX.out] at k3
                    have HO4 := Lib.hid (HSR.out _ _ _ _ ho4)
                    have HB4 := Lib.hid hb4
                    clear ho4 hg4 hb4 htr4 k0
                    go_wp2_with fail
                    go_roundw
                    case rel => exact ⟨b2, c4, some A4, l', cur ++ [z], hb3, by go_num, H5.out, HG2.out, H6.out, by rw [List.length_append, HM2.out]; rfl, HO4.out, HB4.out⟩
                    case measure =>
                      show (lkL (nx2 u) b2).length < (lkL (nx2 u) b).length
                      rw [lkL_eq H1.out, lkL_eq H5.out, List.length_cons]
                      omega
            · obtain rfl : h = 8 := by omega
              have hle := HLE.out 8 (Nat.le_refl _)
              have HSO := Lib.hid (sortTx_any (w0 := w2) HR.out HB.out (by omega))
              have hpl := putL_len [] (lsD u a 8)
              obtain ⟨m8, hm8⟩ : ∃ m, (lsD u a 8).length = m := ⟨_, rfl⟩
              rw [hm8] at HSO hpl ⊢
              have HPL := Lib.hid hpl
              clear hle hm8 hpl
              go_wp2_with (go_at_call 49; refine HSO.out.mono ?_; rintro e w7 ⟨rfl, hs7, hb7⟩)
              go_ret2
              exact LsOut.good HU.out HLA.out (by have := HPL.out; simp at this; omega) (own_base hs7 HBW2.out.size) (HBW2.out.trans (hb7.mono HBW2.out.size))
        · rw [if_neg hf] at HFO
          have t1 : ((fc : Int) != 0) = true := by simp; omega
          go_enter Tryz.func25, Tryz.ntmps25
          go_upto_region 4 with (go_at_call 65; refine HN1.out.mono ?_; rintro e w1 ⟨B, d, rfl, hsl1, hb1⟩)
          have HSL1 := Lib.hid hsl1
          have HB1 := Lib.hid hb1
          have HAC := Lib.hid (HAK.out _ _ ((HS.out.below hb1).more hb1.size))
          clear hsl1 hb1
          go_upto_region 7 with (go_at_call 48; refine HAC.out.mono ?_; rintro e w2 ⟨gp, gr, bl, cp, rfl, ht, hb2⟩)
          have HBW2 := Lib.hid (HB1.out.trans (hb2.mono HB1.out.size))
          have HC := Lib.hid (HFO.out _ _ _ _ d _ _ _ ht ((HSL1.out.below hb2).more hb2.size))
          clear ht hb2
          go_wp2_with (go_at_call 66; refine HC.out.mono ?_; rintro e w' ⟨rfl, hw'⟩; rw [← hw']; clear hw' w')
          go_ret2
          exact LsOut.bad HLA.out hf (World.ownsRow_nil _ _ _ _) HBW2.out
      · have hls := hlc h0
        have HAK := Lib.hid (fun (W : World) (B : Option Addr) (hW : Sl W W.heap.size B n (fun i => .string (s i))) => (HAA.out W B hW).mono (R' := fun e w' => e = .returned (.tuple #[.pointer none, .int .i64 (tCode n s : Nat)]) ∧ Below W.heap.size W w') (fun e w' h => by
          obtain ⟨hb, ⟨_, h⟩ | ⟨h, _⟩⟩ := h
          · exact ⟨h, hb⟩
          · exact absurd h h0))
        obtain ⟨code, hcode⟩ : ∃ k, tCode n s = k := ⟨_, rfl⟩
        rw [hcode] at h0 hls HAK
        have HLA := Lib.hid hls
        have t1 : ((code : Int) != 0) = true := by simp; omega
        clear hlc hlf hls hz HAA hp0 hcode hpt hNN
        go_enter Tryz.func25, Tryz.ntmps25
        go_upto_region 4 with (go_at_call 65; refine HN1.out.mono ?_; rintro e w1 ⟨B, d, rfl, hsl1, hb1⟩)
        have HB1 := Lib.hid hb1
        have HAC := Lib.hid (HAK.out _ _ ((HS.out.below hb1).more hb1.size))
        clear hb1 hsl1
        go_wp2_with (go_at_call 48; refine HAC.out.mono ?_; rintro e w2 ⟨rfl, hb2⟩)
        go_ret2
        exact LsOut.bad HLA.out h0 (World.ownsRow_nil _ _ _ _) (HB1.out.trans (hb2.mono HB1.out.size))
end Go.Proofs.YtiefcgmghkkbmaaGreatDoor
