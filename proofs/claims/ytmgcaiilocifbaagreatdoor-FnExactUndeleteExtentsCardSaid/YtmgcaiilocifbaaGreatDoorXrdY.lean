/-
  Disks of extents: whether an entry can be an extent of a complete file: the reference's side.
  Disks of extents: the contents of entries, one number after another: the reference's side.
-/
import Derived.Test.YtmgcaiilocifbaaGreatDoorXrdP
import Derived.Test.YtmgcaiilocifbaaGreatDoorXvS
import Derived.Deep.DeepCutAuto
import Derived.Test.YtmgcaiilocifbaaGreatDoorXdT
namespace Go.Proofs.YtmgcaiilocifbaaGreatDoor
open Go Go.ChangeShapes Go.WideShapes Go.ChangeAt Go.RowKit lib
set_option linter.unusedVariables false
set_option linter.unusedSimpArgs false
set_option maxRecDepth 100000
/-- a value is returned, and some orders were drawn -/
def QRet (w : World) (v : Value) (r : Ending) (w' : World) : Prop := ∃ k : Nat, r = .returned v ∧ w' = w.drewN k
set_option maxHeartbeats 4000000 in
theorem specWhole_any {w : World} {n z t q eb c B : Nat} {E0 : Value} {A : Option Addr} (e : XE) (last b : Bool) (hr : Rw w q 30 #[.int .i64 n, .int .i64 z, E0, .int .i64 t]) (hre : Rw w eb 38 #[.int .i64 e.st, .string e.nm, .int .i64 e.no, .int .i64 e.tl, .slice A e.bl.length c]) (hse : Sl w B A e.bl.length (fun i => .int .i64 (e.bl.getD i 0))) (hn : n ≤ 128) (hl4 : e.bl.length ≤ 1048576) (hb : b = true ↔ wholeX n t z (last = true) e) :
    Calls Tryz.prog 51 #[.pointer (some ⟨q, 0, none⟩), .pointer (some ⟨eb, 0, none⟩), .bool last] w (QRet w (.bool b)) := by
  have HR := Lib.hid hr
  have HRE := Lib.hid hre
  have HS := Lib.hid hse
  have HB := Lib.hid hb
  obtain ⟨m, hm⟩ : ∃ m, e.bl.length = m := ⟨_, rfl⟩
  rw [hm] at HRE hl4
  have HM := Lib.hid hm
  have hw1 : IntKind.i64.wrap ((n : Int) - 1) = (n : Int) - 1 := by rw [IntKind.wrap_i64]; omega
  clear hr hre hse hb hm
  go_enter Tryz.func51, Tryz.ntmps51
  go_wp2_with fail
  go_loopw [7] (fun s7 wr => ∃ i q' : Nat, i ≤ m ∧ s7 = .int .i64 i ∧ (∀ j, j < i → inX n t (e.bl.getD j 0)) ∧ wr = w.drewN q') (fun i _ => m - (intOf i).toNat)
  case atStart => exact ⟨0, 0, Nat.zero_le _, rfl, fun j hj => absurd hj (by omega), rfl⟩
  case round =>
    obtain ⟨i, q', hi, rfl, hj, rfl⟩ := hrel
    have HJ := Lib.hid hj
    have HDR := Lib.hid (fun k : Nat => (World.drewN_drewN w q' k : (w.drewN q').drewN k = w.drewN (q' + k)))
    have hr' := HR.out.drewN q'
    have hre' := HRE.out.drewN q'
    have hse' : Sl (w.drewN q') B A e.bl.length (fun i => .int .i64 (e.bl.getD i 0)) := HS.out
    have c4 := hre'.cell 4
    have HRQ := Lib.hid hr'
    have HREQ := Lib.hid hre'
    clear hj
    by_cases hlt : i < m
    · obtain ⟨b3, o3, rfl, hb3, hc3⟩ := hse' i (by rw [HM.out]; exact hlt)
      dsimp only at hc3
      have c0 := hr'.cell 0
      have c3 := hr'.cell 3
      obtain ⟨y, hy⟩ : ∃ y, e.bl.getD i 0 = y := ⟨_, rfl⟩
      rw [hy] at hc3
      have HY := Lib.hid hy
      clear hy hse' hr' hre'
      generalize w.drewN q' = wq at *
      have hdd : wq.drew = wq.drewN 1 := rfl
      have HDD := Lib.hid hdd
      clear hdd
      by_cases hin : (t : Int) ≤ y ∧ y ≤ (n : Int) - 1
      · have hv1 : (decide ((t : Int) ≤ y) && decide (y ≤ (n : Int) - 1)) = true := by simp; exact hin
        have HIN := Lib.hid hin
        clear hin
        go_wp2_with fail
        go_region_law (go_simp; go_at_call 28; refine (l00InX _ _ _ _).mono ?_; rw [hv1]; rintro e' w' ⟨rfl, hw'⟩; rw [hw']; clear hw' w')
        all_goals
          go_wp2_with fail
          go_roundw
          case rel => exact ⟨i + 1, q' + 1, by omega, by go_num, fun j hj => by
            rcases Nat.lt_succ_iff_lt_or_eq.1 hj with h | rfl
            · exact HJ.out j h
            · rw [HY.out]; exact HIN.out, (HDD.out.trans (HDR.out 1))⟩
          case measure => simp [intOf]; omega
      · have hv1 : (decide ((t : Int) ≤ y) && decide (y ≤ (n : Int) - 1)) = false := by
          rw [Bool.eq_false_iff]
          simp only [ne_eq, Bool.and_eq_true, decide_eq_true_eq]
          exact hin
        have hbf : b = false := by
          rw [Bool.eq_false_iff]
          intro q2
          have h1 := (HB.out.1 q2).1 y (by rw [← HY.out, List.getD_eq_getElem?_getD, List.getElem?_eq_getElem (by rw [HM.out]; exact hlt)]; exact List.getElem_mem _)
          exact hin h1
        subst hbf
        clear hin
        go_wp2_with fail
        go_region_law (go_simp; go_at_call 28; refine (l00InX _ _ _ _).mono ?_; rw [hv1]; rintro e' w' ⟨rfl, hw'⟩; rw [hw']; clear hw' w')
        all_goals
          go_wp2_with fail
          go_ret
          exact ⟨q' + 1, rfl, (HDD.out.trans (HDR.out 1))⟩
    · obtain rfl : i = m := by omega
      have hall : ∀ b, b ∈ e.bl → inX n t b := fun b hb => by
        obtain ⟨j, hj, rfl⟩ := List.mem_iff_getElem.1 hb
        have := HJ.out j (by rw [← HM.out]; exact hj)
        rwa [List.getD_eq_getElem?_getD, List.getElem?_eq_getElem hj] at this
      have hb2 : b = true ↔ ((¬ last = true → i = 4 ∧ e.tl = (z : Int)) ∧ (last = true → (i = 0 → e.no = 0 ∧ e.tl = 0) ∧ (0 < i → 0 < e.tl))) := by
        rw [HB.out]
        unfold wholeX
        rw [HM.out]
        exact ⟨fun q => q.2, fun q => ⟨hall, q⟩⟩
      have HB2 := Lib.hid hb2
      have c1 := hr'.cell 1
      have c2 := hre'.cell 2
      have c3 := hre'.cell 3
      clear hall hb2 hse' hr' hre'
      generalize w.drewN q' = wq at *
      cases last with
      | false =>
        by_cases h4 : i = 4
        · subst h4
          have hbb : b = (e.tl == (z : Int)) := by
            rw [Bool.eq_iff_iff, HB2.out, beq_iff_eq]
            exact ⟨fun q => (q.1 (by decide)).2, fun q => ⟨fun _ => ⟨rfl, q⟩, fun q2 => by cases q2⟩⟩
          subst hbb
          go_wp2_with fail
          go_quiet ((fail))
          rename_i nq
          go_wp2_with fail
          go_ret
          exact ⟨q' + nq, rfl, HDR.out nq⟩
        · have e1 : ((i : Int) == 4) = false := by simp; omega
          have e1' : ((i : Int) = 4) = False := by simp; omega
          have hbb : b = false := by
            rw [Bool.eq_false_iff]
            exact fun q => h4 ((HB2.out.1 q).1 (by decide)).1
          subst hbb
          go_wp2_with fail
          go_quiet ((fail))
          rename_i nq
          go_wp2_with fail
          go_ret
          exact ⟨q' + nq, rfl, HDR.out nq⟩
      | true =>
        by_cases h0 : i = 0
        · subst h0
          by_cases hno : e.no = 0
          · have e2 : (e.no == 0) = true := by simp [hno]
            have e2' : (e.no = 0) = True := by simp [hno]
            have hbb : b = (e.tl == 0) := by
              rw [Bool.eq_iff_iff, HB2.out, beq_iff_eq]
              exact ⟨fun q => ((q.2 rfl).1 rfl).2, fun q => ⟨fun q2 => absurd rfl q2, fun _ => ⟨fun _ => ⟨hno, q⟩, fun q2 => by omega⟩⟩⟩
            subst hbb
            clear hno
            go_wp2_with fail
            go_ret
            exact ⟨q', rfl, HDR.out 0⟩
          · have e2 : (e.no == 0) = false := by simp [hno]
            have e2' : (e.no = 0) = False := by simp [hno]
            have hbb : b = false := by
              rw [Bool.eq_false_iff]
              exact fun q => hno (((HB2.out.1 q).2 rfl).1 rfl).1
            subst hbb
            clear hno
            go_wp2_with fail
            go_ret
            exact ⟨q', rfl, HDR.out 0⟩
        · have e1 : ((i : Int) == 0) = false := by simp; omega
          have e1' : ((i : Int) = 0) = False := by simp; omega
          have hbb : b = decide (0 < e.tl) := by
            rw [Bool.eq_iff_iff, HB2.out, decide_eq_true_eq]
            exact ⟨fun q => (q.2 rfl).2 (by omega), fun q => ⟨fun q2 => absurd rfl q2, fun _ => ⟨fun q2 => absurd q2 h0, fun _ => q⟩⟩⟩
          subst hbb
          go_wp2_with fail
          go_ret
          exact ⟨q', rfl, HDR.out 0⟩
end Go.Proofs.YtmgcaiilocifbaaGreatDoor
namespace Go.Proofs.YtmgcaiilocifbaaGreatDoor
open Go Go.ChangeShapes Go.WideShapes Go.ChangeAt Go.RowKit lib
set_option linter.unusedVariables false
set_option linter.unusedSimpArgs false
set_option maxRecDepth 100000
def tS (l : List UInt8) : ByteArray := ⟨l.toArray⟩
theorem tS_size (l : List UInt8) : (tS l).size = l.length := by simp [tS, ByteArray.size]
theorem tS_app (a b : List UInt8) : tS a ++ tS b = tS (a ++ b) := by
  apply ByteArray.ext
  simp [tS]
theorem tS_cut (l : List UInt8) (m : Nat) : (tS l).extract 0 m = tS (l.take m) := by
  apply ByteArray.ext
  simp [tS]
/-- the entries with numbers -/
noncomputable def xlist (z : Nat) (U : Nat → UInt8) (l : List Nat) : List XE := l.map (xen z U)
theorem xlist_len (z : Nat) (U : Nat → UInt8) (l : List Nat) : (xlist z U l).length = l.length := by simp [xlist]
theorem xlist_more {z : Nat} {U : Nat → UInt8} {l : List Nat} {i : Nat} (h : i < l.length) : (xlist z U l).take (i + 1) = (xlist z U l).take i ++ [xen z U (l.getD i 0)] := by
  unfold xlist
  rw [← List.map_take, ← List.map_take, take_more h, List.map_append]; rfl
theorem fnd_mem (L : List XE) (k : Int) : fnd L k = xe0 ∨ fnd L k ∈ L := by
  unfold fnd
  by_cases h : withNo L k = []
  · rw [h]; exact .inl rfl
  · right
    rw [List.getLastD_eq_getLast?, List.getLast?_eq_some_getLast h]
    have := List.getLast_mem h
    unfold withNo at this
    exact (List.mem_filter.1 this).1
theorem fnd_ok {z : Nat} {U : Nat → UInt8} (l : List Nat) (k : Int) (i : Nat) : (fnd ((xlist z U l).take i) k).ok z := by
  rcases fnd_mem ((xlist z U l).take i) k with h | h
  · rw [h]; exact .inl ⟨rfl, rfl, rfl, rfl, rfl⟩
  · have h2 : fnd ((xlist z U l).take i) k ∈ l.map (xen z U) := List.mem_of_mem_take h
    obtain ⟨j, _, hj⟩ := List.mem_map.1 h2
    rw [← hj]; exact xen_ok z U j
theorem xok_tl {z : Nat} {e : XE} (h : e.ok z) : 0 ≤ e.tl ∧ e.tl ≤ (z : Int) := by
  rcases h with ⟨_, _, _, h, _⟩ | ⟨_, _, _, h, _⟩
  · omega
  · exact h
theorem outS_len {U : Nat → UInt8} {z : Nat} {L : List XE} (h : ∀ j : Nat, (fnd L (j : Int)).bl.length ≤ 4) : ∀ k, (outS U z L k).length ≤ k * (4 * z)
  | 0 => by simp [outS]
  | k + 1 => by
    have h1 := outS_len (U := U) (z := z) h k
    have h2 := entB_len U z (fnd L (k : Int))
    have h3 := Nat.mul_le_mul_right z (h k)
    rw [outS_more, List.length_append, Nat.add_mul]
    omega
/-- how the reading ends -/
def RdRet (n t z : Nat) (U : Nat → UInt8) (L : List XE) (w : World) (r : Ending) (w' : World) : Prop := Below w.heap.size w w' ∧ ((∀ k, k < L.length → okS n t z L k) → r = .returned (.tuple #[.string (tS (outS U z L L.length)), .bool true])) ∧ (¬ (∀ k, k < L.length → okS n t z L k) → r = .returned (.tuple #[.string ⟨#[]⟩, .bool false]))
set_option maxHeartbeats 16000000 in
theorem specReadX_any {w : World} {n c q z E t c3 : Nat} {A A3 : Option Addr} {s : Nat → ByteArray} (l : List Nat) (hs : Sl w w.heap.size A n (fun i => .string (s i))) (hsz : ∀ i, i < n → (s i).size = z) (hr : Rw w q 30 #[.int .i64 n, .int .i64 z, .int .i64 E, .int .i64 t]) (hz8 : 8 ≤ z) (hz32 : z ≤ 32) (hn : n ≤ 128) (hn1 : 1 ≤ n) (hE : E ≤ 32) (hfit : ∀ k, k < E → z + k * 16 + 16 ≤ n * z)
    (hl : Sl w w.heap.size A3 l.length (fun i => .int .i64 ((l.getD i 0 : Nat) : Int))) (hlen : l.length ≤ 32) (hmem : ∀ j, j < l.length → l.getD j 0 < E ∧ (xen z (joinU z s) (l.getD j 0)).st ≠ 0) :
    Calls Tryz.prog 34 #[.slice A n c, .pointer (some ⟨q, 0, none⟩), .slice A3 l.length c3] w (RdRet n t z (joinU z s) (xlist z (joinU z s) l) w) := by
  obtain ⟨U, hU⟩ : ∃ U, joinU z s = U := ⟨_, rfl⟩
  have hblk : ∀ y, y < n → s y = tS ((List.range z).map fun j => U (y * z + j)) := fun y hy => by
    rw [← hU]
    refine ba_ext (by rw [hsz y hy, tS_size]; simp) fun j hj => ?_
    rw [hsz y hy] at hj
    have h1 := joinU_at (z := z) (s := s) y j hj
    rw [← h1]
    exact (bsx_at (v := fun j => joinU z s (y * z + j)) hj).symm
  have HEA := Lib.hid (fun (W : World) (k : Nat) (hW : Below w.heap.size w W) (hk : k < E) (hst : (xen z U k).st ≠ 0) => (show Calls Tryz.prog 17 #[.slice A n c, .pointer (some ⟨q, 0, none⟩), .int .i64 k] W fun r w' => ∃ A5 c5, r = .returned (.tuple #[(xen z U k).val A5 c5, .bool true]) ∧ IntR W.heap.size w' A5 c5 (xen z U k).bl ∧ Below W.heap.size W w' by
    rw [← hU] at hst ⊢
    exact (specEntryX_any (c := c) ((hs.below hW).more hW.size) hsz (hr.below hW hr.lt) hz8 hz32 hn (hfit k hk)).mono fun r w' q => xEnt_good (v := xby z (joinU z s) k) q (xen_used hst)))
  rw [hU] at hmem ⊢
  have HS := Lib.hid hs
  have HR := Lib.hid hr
  have HL := Lib.hid hl
  have HME := Lib.hid hmem
  have HBK := Lib.hid hblk
  have HSZ := Lib.hid hsz
  have hql := hr.lt
  obtain ⟨L, hLL⟩ : ∃ L, xlist z U l = L := ⟨_, rfl⟩
  have hLl : L.length = l.length := by rw [← hLL, xlist_len]
  have HLL := Lib.hid hLL
  have HLN := Lib.hid hLl
  have h4 : ∀ j : Nat, (fnd L (j : Int)).bl.length ≤ 4 := fun j => by
    have := XE.ok_len (fnd_ok (z := z) (U := U) l j l.length)
    rwa [List.take_of_length_le (by rw [xlist_len]; exact Nat.le_refl _), hLL] at this
  have hol : ∀ k, k ≤ 32 → (outS U z L k).length ≤ 4096 := fun k hk => by
    have h1 := outS_len (U := U) (z := z) h4 k
    have h2 : k * (4 * z) ≤ 32 * (4 * 32) := Nat.mul_le_mul hk (by omega)
    omega
  have HOL := Lib.hid hol
  rw [hLL]
  unfold XE.val at HEA
  clear hs hr hl hmem hblk hsz hLL hLl h4 hol hU hfit
  go_enter Tryz.func34, Tryz.ntmps34
  go_wp2_with fail
  go_loopw [8, 9, 10, 11, 12, 13, 14, 15] (fun s8 s9 s10 s11 s12 s13 s14 s15 wr => ∃ k : Nat, k ≤ l.length ∧ s9 = .int .i64 k ∧ s8 = .string (tS (outS U z L k)) ∧ (∀ j, j < k → okS n t z L j) ∧ Below w.heap.size w wr) (fun _ k _ _ _ _ _ _ _ => l.length - (intOf k).toNat)
  case atStart => exact ⟨0, Nat.zero_le _, rfl, rfl, fun j hj => absurd hj (by omega), Below.refl _ _⟩
  case round =>
    obtain ⟨k, hk, rfl, rfl, hoks, hbr⟩ := hrel
    have HOKS := Lib.hid hoks
    have HBR := Lib.hid hbr
    have hwr := hbr.size
    have holk := HOL.out k (by omega)
    clear hoks hbr
    by_cases hkl : k < l.length
    · have hr1 := Rw.new wr 38 #[.int .i64 0, .string ⟨#[]⟩, .int .i64 0, .int .i64 0, .slice none 0 0]
      have hb1 := (Below.refl wr.heap.size wr).alloc (Nat.le_refl _) (.cells #[.int .i64 0, .string ⟨#[]⟩, .int .i64 0, .int .i64 0, .slice none 0 0] 38)
      go_upto_region 7 with fail
      obtain ⟨q1, hq1⟩ : ∃ q1, wr.heap.size = q1 := ⟨_, rfl⟩
      generalize wr.alloc (.cells #[.int .i64 0, .string ⟨#[]⟩, .int .i64 0, .int .i64 0, .slice none 0 0] 38) = W1 at *
      rw [hq1] at hr1 hb1 hwr ⊢
      have HQ1 := Lib.hid hq1
      have HR1 := Lib.hid hr1
      have HB1 := Lib.hid hb1
      clear hr1 hb1 hq1
      obtain ⟨wo, hwo⟩ : ∃ wo : World, wo = wr := ⟨_, rfl⟩
      have HWO := Lib.hid hwo
      rw [← hwo] at HB1 HBR
      clear hwo
      go_wp2_with fail
      go_loopw [11, 12, 13, 14] (fun s11 s12 s13 s14 wr2 => ∃ (i c' : Nat) (A' : Option Addr), i ≤ l.length ∧ s12 = .int .i64 i ∧ s11 = .int .i64 ((withNo (L.take i) (k : Int)).length : Nat) ∧ Rw wr2 q1 38 #[.int .i64 (fnd (L.take i) (k : Int)).st, .string (fnd (L.take i) (k : Int)).nm, .int .i64 (fnd (L.take i) (k : Int)).no, .int .i64 (fnd (L.take i) (k : Int)).tl, .slice A' (fnd (L.take i) (k : Int)).bl.length c'] ∧ Sl wr2 wr2.heap.size A' (fnd (L.take i) (k : Int)).bl.length (fun j => .int .i64 ((fnd (L.take i) (k : Int)).bl.getD j 0)) ∧ Below q1 wo wr2) (fun _ i _ _ _ => l.length - (intOf i).toNat)
      case atStart => exact ⟨0, 0, none, Nat.zero_le _, rfl, rfl, HR1.out, fun j hj => absurd hj (by show ¬ j < 0; omega), HB1.out⟩
      case round =>
        obtain ⟨i, c', A', hi, rfl, rfl, hrx, hsx, hbx⟩ := hrel
        have HRX := Lib.hid hrx
        have HSX := Lib.hid hsx
        have HBX := Lib.hid hbx
        have hql2 : q1 < wr.heap.size := hrx.lt
        have hBall : Below w.heap.size w wr := HBR.out.trans (hbx.mono hwr)
        have HBA := Lib.hid hBall
        have hcnt : (withNo (L.take i) (k : Int)).length ≤ 32 := by
          unfold withNo
          refine Nat.le_trans (List.length_filter_le _ _) ?_
          rw [List.length_take]; omega
        clear hrx hsx hbx hBall
        by_cases hil : i < l.length
        · obtain ⟨hkE, hst⟩ := HME.out i hil
          obtain ⟨b3, o3, rfl, hb3, hc3⟩ := HL.out i hil
          have hc3' := (HBA.out.cell (p := ⟨b3, o3 + i, none⟩) hb3).trans hc3
          dsimp only at hc3'
          have hmore := xlist_more (z := z) (U := U) hil
          rw [HLL.out] at hmore
          obtain ⟨y, hy⟩ : ∃ y, l.getD i 0 = y := ⟨_, rfl⟩
          rw [hy] at hkE hst hc3' hmore
          have HCA := Lib.hid (HEA.out wr y HBA.out hkE hst)
          obtain ⟨e, he⟩ : ∃ e, xen z U y = e := ⟨_, rfl⟩
          rw [he] at HCA hmore
          have HMO := Lib.hid hmore
          obtain ⟨m5, hm5⟩ : ∃ m5, e.bl.length = m5 := ⟨_, rfl⟩
          rw [hm5] at HCA
          have HM5 := Lib.hid hm5
          clear hc3 hy hkE hst hmore he hm5
          go_upto_region 11 with (go_at_call 17; refine HCA.out.mono ?_; rintro r w5 ⟨A5, c5, rfl, hi5, hb5⟩)
          have hr6 := Rw.new w5 38 #[.int .i64 e.st, .string e.nm, .int .i64 e.no, .int .i64 e.tl, .slice A5 m5 c5]
          have hb6 := hb5.alloc hb5.size (.cells #[.int .i64 e.st, .string e.nm, .int .i64 e.no, .int .i64 e.tl, .slice A5 m5 c5] 38)
          have hi6 := hi5.below ((Below.refl w5.heap.size w5).alloc (Nat.le_refl _) (.cells #[.int .i64 e.st, .string e.nm, .int .i64 e.no, .int .i64 e.tl, .slice A5 m5 c5] 38))
          obtain ⟨q6, hq6⟩ : ∃ q6, w5.heap.size = q6 := ⟨_, rfl⟩
          have hq61 : q1 ≠ q6 := by have := hb5.size; omega
          generalize w5.alloc (.cells #[.int .i64 e.st, .string e.nm, .int .i64 e.no, .int .i64 e.tl, .slice A5 m5 c5] 38) = W6 at *
          rw [hq6] at hr6 ⊢
          have hx6 := HRX.out.below hb6 hql2
          have hs6 := (HSX.out.below hb6).more hb6.size
          have hB6 : Below q1 wo W6 := HBX.out.trans (hb6.mono (Nat.le_of_lt hql2))
          have HX6 := Lib.hid hx6
          have HS6 := Lib.hid hs6
          have HI6 := Lib.hid hi6
          have HB6 := Lib.hid hB6
          have k0 := hr6.cell 0
          have k1 := hr6.cell 1
          have k2 := hr6.cell 2
          have k3 := hr6.cell 3
          have k4 := hr6.cell 4
          clear hi5 hb5 hq6 hb6 hi6 hs6 hB6 hr6 hc3'
          by_cases hno : e.no = (k : Int)
          · have e1 : (e.no == (k : Int)) = true := by simp [hno]
            have e1' : (e.no = (k : Int)) = True := by simp [hno]
            have hw1 : (withNo (L.take (i + 1)) (k : Int)).length = (withNo (L.take i) (k : Int)).length + 1 := by rw [HMO.out, withNo_hit hno]; simp
            have hf1 : fnd (L.take (i + 1)) (k : Int) = e := by rw [HMO.out, fnd_hit hno]
            have HW1 := Lib.hid hw1
            have HF1 := Lib.hid hf1
            have l0 := hx6.cell 0
            have l1 := hx6.cell 1
            have l2 := hx6.cell 2
            have l3 := hx6.cell 3
            have l4 := hx6.cell 4
            have m0 := hx6.frozen 0
            have m1 := hx6.frozen 1
            have m2 := hx6.frozen 2
            have m3 := hx6.frozen 3
            have m4 := hx6.frozen 4
            have rr := ((((hx6.set 0 (.int .i64 e.st)).set 1 (.string e.nm)).set 2 (.int .i64 e.no)).set 3 (.int .i64 e.tl)).set 4 (.slice A5 m5 c5)
            have ho3 := World.ownsRow.kept HI6.out (only_setCell (g := q1) (p := ⟨q1, 4, none⟩) (only_setCell (g := q1) (p := ⟨q1, 3, none⟩) (only_setCell (g := q1) (p := ⟨q1, 2, none⟩) (only_setCell (g := q1) (p := ⟨q1, 1, none⟩) (only_setCell (g := q1) (p := ⟨q1, 0, none⟩) (only_refl W6 _) (.inl rfl) (.int .i64 e.st)) (.inl rfl) (.string e.nm)) (.inl rfl) (.int .i64 e.no)) (.inl rfl) (.int .i64 e.tl)) (.inl rfl) (.slice A5 m5 c5)) (own_neR HI6.out hx6 (by decide))
            have hb3 := ((((HB6.out.setCell (p := ⟨q1, 0, none⟩) (Nat.le_refl _) (.int .i64 e.st)).setCell (p := ⟨q1, 1, none⟩) (Nat.le_refl _) (.string e.nm)).setCell (p := ⟨q1, 2, none⟩) (Nat.le_refl _) (.int .i64 e.no)).setCell (p := ⟨q1, 3, none⟩) (Nat.le_refl _) (.int .i64 e.tl)).setCell (p := ⟨q1, 4, none⟩) (Nat.le_refl _) (.slice A5 m5 c5)
            have RR := Lib.hid rr
            have HO3 := Lib.hid ho3
            have HB3 := Lib.hid hb3
            clear rr ho3 hb3 hx6 hno hw1 hf1
            go_wp2_with fail
            go_roundw
            case rel =>
              refine ⟨i + 1, c5, A5, by omega, by go_num, ?_, ?_, ?_, HB3.out⟩
              · rw [HW1.out]; go_num
              · rw [HF1.out, HM5.out]; exact RR.out
              · rw [HF1.out]; exact (show IntR _ _ A5 c5 e.bl from HO3.out).sl
            case measure => simp [intOf]; omega
          · have e1 : (e.no == (k : Int)) = false := by simp [hno]
            have e1' : (e.no = (k : Int)) = False := by simp [hno]
            have hw1 : withNo (L.take (i + 1)) (k : Int) = withNo (L.take i) (k : Int) := by rw [HMO.out, withNo_miss hno]
            have hf1 : fnd (L.take (i + 1)) (k : Int) = fnd (L.take i) (k : Int) := by rw [HMO.out, fnd_miss hno]
            have HW1 := Lib.hid hw1
            have HF1 := Lib.hid hf1
            clear hx6 hno hw1 hf1
            go_wp2_with fail
            go_roundw
            case rel =>
              refine ⟨i + 1, c', A', by omega, by go_num, by rw [HW1.out], by rw [HF1.out]; exact HX6.out, by rw [HF1.out]; exact HS6.out, HB6.out⟩
            case measure => simp [intOf]; omega
        · obtain rfl : i = l.length := by omega
          have htk : L.take l.length = L := List.take_of_length_le (by rw [HLN.out]; exact Nat.le_refl _)
          have hrx := HRX.out
          have hsx := HSX.out
          rw [htk] at hrx hsx hcnt ⊢
          have hFok : (fnd L (k : Int)).ok z := by
            have := fnd_ok (z := z) (U := U) l (k : Int) l.length
            rwa [HLL.out, htk] at this
          have hokk : okS n t z L k ↔ ((withNo L (k : Int)).length = 1 ∧ wholeX n t z (k + 1 = L.length) (fnd L (k : Int))) := Iff.rfl
          have hmore := outS_more U z L k
          obtain ⟨F, hF⟩ : ∃ F, fnd L (k : Int) = F := ⟨_, rfl⟩
          obtain ⟨cn, hcn⟩ : ∃ cn, (withNo L (k : Int)).length = cn := ⟨_, rfl⟩
          rw [hF] at hrx hsx hFok hokk hmore
          rw [hcn] at hcnt hokk ⊢
          obtain ⟨O, hO⟩ : ∃ O, outS U z L k = O := ⟨_, rfl⟩
          rw [hO] at holk hmore
          obtain ⟨O8, hO8⟩ : ∃ O8, tS O = O8 := ⟨_, rfl⟩
          rw [hO, hO8]
          have HO8 := Lib.hid hO8
          have HKK := Lib.hid hokk
          have HMORE := Lib.hid hmore
          have hFl := XE.ok_len hFok
          have hFt := xok_tl hFok
          have HRF := Lib.hid hrx
          have HSF := Lib.hid hsx
          clear htk hrx hsx hF hcn hO hO8 hokk hmore hFok HRX HSX
          obtain ⟨lp, hlp⟩ : ∃ lp, l.length = lp + 1 := ⟨l.length - 1, by omega⟩
          have n1 : ((l.length : Nat) : Int) - 1 = (lp : Int) := by omega
          have hkk2 : ∀ j, j < L.length ↔ j < l.length := fun j => by rw [HLN.out]
          have HK2 := Lib.hid hkk2
          have hkL : k < L.length := by rw [HLN.out]; exact hkl
          clear hkk2
          by_cases hc1 : cn = 1
          · subst hc1
            obtain ⟨lb, hlb⟩ : ∃ lb : Bool, (k == lp) = lb := ⟨_, rfl⟩
            have e2 : ((k : Int) == (lp : Int)) = lb := by
              rw [← hlb, Bool.eq_iff_iff, beq_iff_eq, beq_iff_eq]; omega
            have hlast : (lb = true) = (k + 1 = L.length) := by
              rw [← hlb, beq_iff_eq, HLN.out, hlp]
              apply propext
              omega
            have hwb : ∃ wb : Bool, wb = true ↔ wholeX n t z (lb = true) F := by
              open Classical in exact ⟨decide (wholeX n t z (lb = true) F), decide_eq_true_iff⟩
            obtain ⟨wb, hwb⟩ := hwb
            have HWC := Lib.hid (specWhole_any F lb wb (HR.out.below HBA.out hql) HRF.out HSF.out hn (by omega) hwb)
            rw [hlast] at hwb
            have HWB := Lib.hid (hwb.trans (show wholeX n t z (k + 1 = L.length) F ↔ okS n t z L k from ⟨fun q => HKK.out.2 ⟨rfl, q⟩, fun q => (HKK.out.1 q).2⟩))
            have HLB := Lib.hid hlb
            clear hlast hwb hlp
            cases wb with
            | false =>
              have hnot : ¬ ∀ j, j < L.length → okS n t z L j := fun h => by have := HWB.out.2 (h k hkL); cases this
              have HNOT := Lib.hid hnot
              clear hnot
              go_wp2_with (go_at_call 51; refine HWC.out.mono ?_; rintro r w8 ⟨k8, rfl, rfl⟩)
              go_ret2
              exact ⟨HBA.out.drewN k8, fun h => absurd h HNOT.out, fun _ => rfl⟩
            | true =>
              have hok1 := HWB.out.1 rfl
              have hin := (HKK.out.1 hok1).2.1
              have HOK1 := Lib.hid hok1
              have HIN := Lib.hid hin
              obtain ⟨m, hm⟩ : ∃ m, F.bl.length = m := ⟨_, rfl⟩
              rw [hm] at HRF hFl
              have HM := Lib.hid hm
              clear hok1 hin hm hlb
              go_upto_region 16 with (go_at_call 51; refine HWC.out.mono ?_; rintro r w8 ⟨k8, rfl, rfl⟩)
              have hrf8 := HRF.out.drewN k8
              have hba8 := HBA.out.drewN k8
              have HRF8 := Lib.hid hrf8
              have HBA8 := Lib.hid hba8
              have hsf8 : Sl (wr.drewN k8) wr.heap.size A' m (fun j => .int .i64 (F.bl.getD j 0)) := by rw [← HM.out]; exact HSF.out
              have HSF8 := Lib.hid hsf8
              have hr8 := HR.out.below hba8 hql
              have HR8 := Lib.hid hr8
              have c4 := hrf8.cell 4
              have c3 := hrf8.cell 3
              have x1 := hr8.cell 1
              clear hrf8 hba8 hsf8 hr8
              generalize wr.drewN k8 = W8 at *
              go_wp2_with fail
              go_loopw [8, 15] (fun s8 s15 wr3 => ∃ i : Nat, i ≤ m ∧ s15 = .int .i64 i ∧ s8 = .string (tS (O ++ blksB U z (F.bl.take i))) ∧ wr3 = W8) (fun _ i _ => m - (intOf i).toNat)
              case atStart => exact ⟨0, Nat.zero_le _, rfl, by rw [← HO8.out]; simp [blksB], rfl⟩
              case round =>
                obtain ⟨i, hi, rfl, rfl, rfl⟩ := hrel
                have hbl := blksB_len U z (F.bl.take i)
                have hbl2 : (F.bl.take i).length ≤ 4 := by rw [List.length_take, HM.out]; omega
                have hbl3 := Nat.mul_le_mul hbl2 hz32
                by_cases him : i < m
                · obtain ⟨b4, o4, rfl, hb4, hc4⟩ := HSF8.out i him
                  dsimp only at hc4
                  have hinX := HIN.out (F.bl.getD i 0) (by rw [List.getD_eq_getElem?_getD, List.getElem?_eq_getElem (by rw [HM.out]; exact him)]; exact List.getElem_mem _)
                  have htk := take_moreI (l := F.bl) (j := i) (by rw [HM.out]; exact him)
                  obtain ⟨y, hy⟩ : ∃ y, F.bl.getD i 0 = y := ⟨_, rfl⟩
                  rw [hy] at hc4 hinX htk
                  obtain ⟨bk, rfl⟩ := Int.eq_ofNat_of_zero_le (show 0 ≤ y by have := hinX.1; omega)
                  have hbn : bk < n := by have := hinX.2; omega
                  obtain ⟨b5, o5, rfl, hb5, hc5⟩ := HS.out bk hbn
                  have hc5' := (HBA8.out.cell (p := ⟨b5, o5 + bk, none⟩) hb5).trans hc5
                  dsimp only at hc5'
                  have hsb := HBK.out bk hbn
                  have hss := HSZ.out bk hbn
                  have hbz : blksB U z (F.bl.take (i + 1)) = blksB U z (F.bl.take i) ++ (List.range z).map fun j => U (bk * z + j) := by
                    rw [htk, blksB_snoc]; rfl
                  obtain ⟨S, hS⟩ : ∃ S, s bk = S := ⟨_, rfl⟩
                  rw [hS] at hc5' hsb hss
                  have hadd : tS (O ++ blksB U z (F.bl.take i)) ++ S = tS (O ++ blksB U z (F.bl.take (i + 1))) := by
                    rw [hsb, tS_app, hbz, List.append_assoc]
                  have hxs : (tS (O ++ blksB U z (F.bl.take i))).size ≤ 8192 := by rw [tS_size, List.length_append]; omega
                  obtain ⟨X, hX⟩ : ∃ X, tS (O ++ blksB U z (F.bl.take i)) = X := ⟨_, rfl⟩
                  obtain ⟨Y, hY⟩ : ∃ Y, tS (O ++ blksB U z (F.bl.take (i + 1))) = Y := ⟨_, rfl⟩
                  rw [hX] at hadd hxs ⊢
                  rw [hY] at hadd
                  have HY := Lib.hid hY
                  have a1 : ∀ W : World, (Op.stringOp .add X S).run Tryz.prog W = .ok (.string Y) W := fun W => by rw [run_string_add_sum _ _ _ (by omega), hadd]
                  clear hX hY hadd hsb hss hS hbz htk hy hc5 hinX hbl
                  go_wp2_with fail
                  exact ⟨⟨i + 1, by omega, by go_num, by rw [HY.out], trivial⟩, by simp [intOf]; omega⟩
                · obtain rfl : i = m := by omega
                  have htk2 : F.bl.take i = F.bl := List.take_of_length_le (by rw [HM.out]; exact Nat.le_refl _)
                  rw [htk2] at hbl ⊢
                  have hlenX : (tS (O ++ blksB U z F.bl)).size = O.length + i * z := by rw [tS_size, List.length_append, blksB_len, HM.out]
                  have hiz : i * z ≤ 4 * 32 := Nat.mul_le_mul hFl hz32
                  by_cases hm0 : i = 0
                  · have hout : tS (O ++ blksB U z F.bl) = tS (outS U z L (k + 1)) := by
                      rw [HMORE.out, entB_none (by rw [HM.out]; exact hm0), List.eq_nil_of_length_eq_zero (show (blksB U z F.bl).length = 0 by rw [blksB_len, HM.out, hm0]; simp)]
                    have HOUT := Lib.hid hout
                    have e5 : decide (0 < i) = false := by simp [hm0]
                    have e5' : ¬ 0 < i := by omega
                    obtain ⟨X, hX⟩ : ∃ X, tS (O ++ blksB U z F.bl) = X := ⟨_, rfl⟩
                    rw [hX]
                    have HX := Lib.hid hX
                    clear hX hout hm0 htk2 hbl hlenX
                    go_wp2_with fail
                    go_roundw
                    case rel => exact ⟨k + 1, by omega, by go_num, by rw [← HX.out, HOUT.out], fun j hj => by
                      rcases Nat.lt_succ_iff_lt_or_eq.1 hj with h | rfl
                      · exact HOKS.out j h
                      · exact HOK1.out, HBA8.out⟩
                    case measure => simp [intOf]; omega
                  · have e5 : decide (0 < i) = true := by simp; omega
                    have e5' : 0 < i := by omega
                    obtain ⟨tl, htl⟩ := Int.eq_ofNat_of_zero_le hFt.1
                    have htz : tl ≤ z := by have := hFt.2; omega
                    obtain ⟨sz, hsz⟩ : ∃ sz, O.length + i * z = sz := ⟨_, rfl⟩
                    obtain ⟨el, hel⟩ : ∃ el, O.length + ((i - 1) * z + tl) = el := ⟨_, rfl⟩
                    have hiz2 : (i - 1) * z + z = i * z := by
                      rw [← Nat.succ_mul]; congr 1; omega
                    have hout : (tS (O ++ blksB U z F.bl)).extract 0 el = tS (outS U z L (k + 1)) := by
                      rw [tS_cut, HMORE.out, entB_some (by rw [HM.out]; exact hm0), HM.out, htl, ← hel, List.take_length_add_append]
                      rfl
                    have HOUT := Lib.hid hout
                    obtain ⟨d, hd⟩ : ∃ d, sz - z = d := ⟨_, rfl⟩
                    have q1' : ((sz : Nat) : Int) - (z : Int) = (d : Int) := by omega
                    have q2' : ((d : Nat) : Int) + (tl : Int) = (el : Int) := by omega
                    have q3 : IntKind.i64.wrap (d : Int) = (d : Int) := by rw [IntKind.wrap_i64]; omega
                    have q4 : IntKind.i64.wrap (el : Int) = (el : Int) := by rw [IntKind.wrap_i64]; omega
                    rw [hsz] at hlenX
                    obtain ⟨X, hX⟩ : ∃ X, tS (O ++ blksB U z F.bl) = X := ⟨_, rfl⟩
                    obtain ⟨Y, hY⟩ : ∃ Y, tS (outS U z L (k + 1)) = Y := ⟨_, rfl⟩
                    rw [hX] at hlenX hout ⊢
                    rw [hY] at hout
                    have HY := Lib.hid hY
                    have hsl : ∀ W : World, (Instr.slice 9 (.string X) none (some (.int .i64 (el : Int))) none).run Tryz.prog W = .ok (.string Y) W := fun W => by
                      rw [run_slice_string_h (P := Tryz.prog) W 9 _ Tryz.underlying9 .i64 (el : Int) (by omega) (by rw [hlenX]; omega)]
                      rw [show ((el : Int)).toNat = el by omega, hout]
                    have hlX : (X.size : Int) = (sz : Int) := by rw [hlenX]
                    rw [htl] at c3
                    clear hX hY hout HOUT hlenX htk2 hbl hd hel hsz htl hm0 hiz2 hFt
                    go_upto_region 21 with fail
                    go_quiet ((fail))
                    rename_i nq
                    go_wp2_with fail
                    go_roundw
                    case rel => exact ⟨k + 1, by omega, by go_num, by rw [HY.out], fun j hj => by
                      rcases Nat.lt_succ_iff_lt_or_eq.1 hj with h | rfl
                      · exact HOKS.out j h
                      · exact HOK1.out, HBA8.out.drewN nq⟩
                    case measure => simp [intOf]; omega
          · have e1 : ((cn : Int) != 1) = true := by simp; omega
            have e1' : ((cn : Int) = 1) = False := by simp; omega
            have hnot : ¬ ∀ j, j < L.length → okS n t z L j := fun h => hc1 (HKK.out.1 (h k hkL)).1
            have HNOT := Lib.hid hnot
            clear hnot hlp hc1
            go_wp2_with fail
            go_ret2
            exact ⟨HBA.out, fun h => absurd h HNOT.out, fun _ => rfl⟩
    · obtain rfl : k = l.length := by omega
      have hll := HLN.out
      rw [← hll]
      go_wp2_with fail
      go_ret2
      refine ⟨HBR.out, fun _ => ?_, fun h => absurd (fun j hj => HOKS.out j (by omega)) h⟩
      rfl
end Go.Proofs.YtmgcaiilocifbaaGreatDoor
