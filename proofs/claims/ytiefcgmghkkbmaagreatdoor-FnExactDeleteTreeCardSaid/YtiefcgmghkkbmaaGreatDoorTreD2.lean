/-
  Trees: DeleteTree, the reference's side.
  Trees: DeleteTree, the program's side.
-/
import Derived.Test.YtiefcgmghkkbmaaGreatDoorTreD1
import Derived.Test.YtiefcgmghkkbmaaGreatDoorTrePn
import Derived.Deep.LoopGhost
namespace Go.Proofs.YtiefcgmghkkbmaaGreatDoor
open Go Go.ChangeShapes Go.WideShapes Go.ChangeAt Go.RowKit lib
set_option linter.unusedVariables false
set_option linter.unusedSimpArgs false
set_option maxRecDepth 100000
def DlOut (n : Nat) (s : Nat → ByteArray) (p : ByteArray) (w : World) (e : Ending) (w' : World) : Prop :=
  ∃ (A : Option Addr) (c : Nat), e = .returned (.tuple #[.slice A (dltN n s p) c, .int .i64 (dltC n s p : Nat)]) ∧ w'.ownsRow w.heap.size 9 1 (.slice A (dltN n s p) c) (dltN n s p) ((List.range (dltN n s p)).map fun (i : Nat) => Value.string (dltF n s p i)) ∧ Below w.heap.size w w'
theorem DlOut.bad {n : Nat} {s : Nat → ByteArray} {p : ByteArray} {w w' : World} {A : Option Addr} {c k : Nat} (hk : dltC n s p = k) (h0 : k ≠ 0) (ho : w'.ownsRow w.heap.size 9 1 (.slice A 0 c) 0 []) (hb : Below w.heap.size w w') : DlOut n s p w (.returned (.tuple #[.slice A 0 c, .int .i64 (k : Int)])) w' := by
  have hn : dltN n s p = 0 := if_neg (by rw [hk]; exact h0)
  unfold DlOut
  rw [hn, hk]
  exact ⟨A, c, rfl, ho, hb⟩
theorem DlOut.good {n : Nat} {s : Nat → ByteArray} {p : ByteArray} {w w' : World} {A : Option Addr} {c : Nat} {V : Nat → Nat → UInt8} (hk : dltC n s p = 0) (hV : dlU (fun i => byteAt (s i)) (askT n s p).2.1 (askT n s p).2.2 = V) (ho : w'.ownsRow w.heap.size 9 1 (.slice A n c) n ((List.range n).map fun (i : Nat) => Value.string (bstr 32 (V i)))) (hb : Below w.heap.size w w') : DlOut n s p w (.returned (.tuple #[.slice A n c, .int .i64 0])) w' := by
  have hn : dltN n s p = n := if_pos hk
  unfold DlOut dltF
  rw [hn, hk, hV]
  exact ⟨A, c, rfl, ho, hb⟩
theorem str_bstr {x : ByteArray} (h : x.size = 32) : bstr 32 (byteAt x) = x := by
  have h1 := extT (s := x) (a := 0) (b := 32) (by omega)
  simp only [Nat.sub_zero, Nat.zero_add] at h1
  rw [← h1]
  apply ByteArray.ext
  apply Array.ext'
  rw [ByteArray.data_extract, Array.toList_extract]
  have : x.data.toList.length = 32 := h
  simp [List.extract_eq_take_drop, List.take_of_length_le, this]
theorem spW_of {w : World} {q n B c : Nat} {A : Option Addr} {s : Nat → ByteArray} (h0 : 0 < n) (h32 : ∀ i, i < n → (s i).size = 32) (hr : Row w q 40 #[.slice A n c]) (ho : w.ownsRow B 9 1 (.slice A n c) n ((List.range n).map fun (i : Nat) => Value.string (s i))) : ∃ ga, A = some ⟨ga, 0, none⟩ ∧ SpW w q n B ga c (fun i => byteAt (s i)) := by
  obtain ⟨g, c', e, _, _⟩ := ho.form h0
  injection e with e1 e2 e3
  subst e1
  refine ⟨g, rfl, hr, ?_⟩
  have e1 : ((List.range n).map fun (i : Nat) => Value.string (bstr 32 (byteAt (s i)))) = (List.range n).map fun (i : Nat) => Value.string (s i) := List.map_congr_left fun i hi => by rw [str_bstr (h32 i (List.mem_range.1 hi))]
  rw [e1]
  exact ho
set_option maxHeartbeats 16000000 in
theorem specDelete_any {w : World} {A : Option Addr} {n c : Nat} {s : Nat → ByteArray} {p : ByteArray} (hm : n ≤ 1048576) (hp : p.size ≤ 1048576) (hs : Sl w w.heap.size A n (fun i => .string (s i))) :
    Calls Tryz.prog 20 #[.slice A n c, .string p] w (DlOut n s p w) := by
  have hop := l18Ask_any (c := c) hm hp hs
  have hUV : ∀ x y z, (fun i => byteAt (s i)) = x → (askT n s p).2.1 = y → (askT n s p).2.2 = z → dlU (fun i => byteAt (s i)) (askT n s p).2.1 (askT n s p).2.2 = dlU x y z := by
    rintro _ _ _ rfl rfl rfl
    rfl
  by_cases h0 : (askT n s p).1 = 0
  · have hdc := dltC_ok h0
    obtain ⟨hc, hdd, hnm⟩ := askT_zero h0
    obtain ⟨⟨h4, hn, h32⟩, _⟩ := tCode_zero hc
    have HOP := Lib.hid (hop.mono (R' := fun e w' => _) (fun e w' h => h.good' h0))
    have HSP := Lib.hid (fun (W : World) (q B c2 : Nat) (A2 : Option Addr) (hr : Row W q 40 #[.slice A2 n c2]) (ho : W.ownsRow B 9 1 (.slice A2 n c2) n ((List.range n).map fun (i : Nat) => Value.string (s i))) => spW_of (by omega) h32 hr ho)
    obtain ⟨u, hu⟩ : ∃ u : Nat → Nat → UInt8, (fun i => byteAt (s i)) = u := ⟨_, rfl⟩
    have HU := Lib.hid (show ∀ i, u i = byteAt (s i) from fun i => by rw [← hu])
    rw [hu] at hdd hdc HSP
    obtain ⟨d, hd⟩ : ∃ d, (askT n s p).2.1 = d := ⟨_, rfl⟩
    obtain ⟨nm, hnm'⟩ : ∃ d, (askT n s p).2.2 = d := ⟨_, rfl⟩
    have HUV := Lib.hid (hUV u d nm hu hd hnm')
    rw [hd] at hdd HOP hdc
    rw [hnm'] at hnm HOP hdc
    have hee := lookU_ee hdd nm
    have hdl := del_look (nm := nm) hdd
    have hc0 := dlC_none (u := u) (d := d) (nm := nm)
    have hc6 := dlC_full (u := u) (d := d) (nm := nm)
    have hck := dlC_ok (u := u) (d := d) (nm := nm)
    have H32 := Lib.hid h32
    have HFI := Lib.hid (fun (W : World) (q c2 : Nat) (A2 : Option Addr) (hW : SpR W q n A2 c2 s) => find_any HU.out hW hn H32.out hdd hnm)
    have hdO : dlO u d nm = ownL (lookU u d nm) (lkL (nx2 u) (u d (tTab d + tHash nm)).toNat) (d, tTab d + tHash nm) := rfl
    have hdU : dlU u d nm = delI u (dlO u d nm).1 (dlO u d nm).2 (lookU u d nm) (prtL u (lookU u d nm)) := rfl
    obtain ⟨b, hb⟩ : ∃ b, lookU u d nm = b := ⟨_, rfl⟩
    rw [hb] at HFI hee hdl hc0 hc6 hck hdO hdU
    have HDD := Lib.hid hdd
    clear hop h0 hc hs hu hd hnm' hb h32 hUV
    by_cases hb0 : b = 0
    · rw [show fndI b = -1 from if_pos hb0] at HFI
      have HDC := Lib.hid (hdc.trans (hc0 hb0))
      clear hee hb0 hc0 hc6 hck hdO hdU hdl hdc hdd hnm
      go_enter Tryz.func20, Tryz.ntmps20
      go_upto_region 4 with (go_at_call 26; refine HOP.out.mono ?_; rintro e w2 ⟨q, A2, c2, rfl, hr, ho, hb2⟩)
      have HC := Lib.hid (HFI.out w2 q c2 A2 ⟨hr, own_slR ho⟩)
      have HB2 := Lib.hid hb2
      clear hr ho hb2
      go_wp2_with (go_at_call 27; refine HC.out.mono ?_; rintro e w3 ⟨rfl, hb3⟩)
      go_ret2
      have hb4 := HB2.out.trans (hb3.mono HB2.out.size)
      exact DlOut.bad (k := 3) HDC.out (by decide) (own_nilE w3 _ _ _ hb4.size) (hb4.alloc hb4.size _)
    · rw [show fndI b = (b : Int) from if_neg hb0] at HFI
      have hE : EE n u d b := hee.resolve_left hb0
      obtain ⟨l, hl, hle, hbl, hbnm⟩ := hdl hb0
      have hbn := hE.lt
      have t0 : decide ((b : Int) < 0) = false := by rw [decide_eq_false_iff_not]; omega
      have hbi : (b : Int) < (n : Int) := by omega
      obtain ⟨xb, hxb⟩ : ∃ x, bstr 32 (u b) = x := ⟨_, rfl⟩
      have HXB := Lib.hid hxb
      have hzb : xb.size = 32 := by rw [← hxb]; exact bsT_size _ _
      have hub : byteAt xb 0 = u b 0 := by rw [← hxb]; exact bsT_at (by omega)
      have hz0 : 0 < xb.size := by omega
      have hg2 := byteAt_get xb 0 hz0
      rw [hub] at hg2
      have hszb : ((xb.size : Nat) : Int) = 32 := by omega
      obtain ⟨y, hy⟩ : ∃ y, (u b 0).toNat = y := ⟨_, rfl⟩
      have hy2 : y < 256 := by rw [← hy]; exact UInt8.toNat_lt _
      rw [lkL_eq hl] at hdO
      have hln : ∀ x ∈ l, x < n := fun x hx => (hle x hx).lt
      obtain ⟨o, a, hoa⟩ : ∃ o a, ownL b l (d, tTab d + tHash nm) = (o, a) := ⟨_, _, rfl⟩
      rw [hoa] at hdO
      rw [hdO] at hdU
      have hdn := hdd.1
      have hdi : (d : Int) < (n : Int) := by omega
      rcases hE.kind with h2 | h4'
      · have hy4 : y = 2 := by rw [← hy, h2]; rfl
        have t2 : ((y : Int) == 2) = true := by simp; omega
        have t4 : ((y : Int) == 4) = false := by simp; omega
        have HDC := Lib.hid (hdc.trans (hck hb0 (fun q => by rw [h2] at q; exact absurd q.1 (by decide))))
        obtain ⟨P, hP, hPl, hPm, hPn⟩ := file_parts hE h2
        have hprt : prtL u b = P := by
          unfold prtL
          rw [if_pos h2, lkL_eq hP]
        rw [hprt] at hdU
        have hbP : b ∉ P := fun q => hE.not3 (hPm b q).2.2
        obtain ⟨hon, ha32, hWl, hWn, hdel⟩ := del_facts (W := clrS u b P) hdd hl hle hbl hbnm hPm hoa (fun i hi => clrS_other hi) (fun j h1 h2' => by
          rw [clrS_byte hbP hE.ne h1 h2', dropL_other P hbP hE.ne])
        have HDU := Lib.hid (HUV.out.trans (hdU.trans hdel.symm))
        have HCL := Lib.hid (fun (W : World) (q B ga c2 : Nat) (hW : SpW W q n B ga c2 u) (hB : B ≤ W.heap.size) => clear_any hW hbn hn hB hP (fun x hx => ⟨(hPm x hx).1, (hPm x hx).2.1⟩) hPn)
        have HUN := Lib.hid (fun (W : World) (q B ga c2 : Nat) (hW : SpW W q n B ga c2 (clrS u b P)) (hB : B ≤ W.heap.size) => unlink_any hW hdn hbn hn hB hWn hnm hWl hln hbl hoa)
        clear hee hc0 hc6 hck hdO hdU hdl hdc hl hle hbl hbnm hxb hub hy4 hln hoa hP hPl hPm hPn hprt hbP hWl hWn hdel hdd hnm h2
        go_enter Tryz.func20, Tryz.ntmps20
        go_upto_region 4 with (go_at_call 26; refine HOP.out.mono ?_; rintro e w2 ⟨q, A2, c2, rfl, hr, ho, hb2⟩)
        have HC := Lib.hid (HFI.out w2 q c2 A2 ⟨hr, own_slR ho⟩)
        have HT := Lib.hid (show SpR w2 q n A2 c2 s from ⟨hr, own_slR ho⟩)
        obtain ⟨ga, hA2, hsw⟩ := HSP.out w2 q _ c2 A2 hr ho
        subst hA2
        have HSW := Lib.hid hsw
        have HB2 := Lib.hid hb2
        clear hr ho hb2 hsw
        go_upto_region 10 with (go_at_call 27; refine HC.out.mono ?_; rintro e w3 ⟨rfl, hb3⟩; have hw3 := HSW.out.below hb3; have HSW3 := Lib.hid hw3; have HT3 := Lib.hid (HT.out.below hb3); have HB3 := Lib.hid (HB2.out.trans (hb3.mono HB2.out.size)); have k1 := hw3.ptr; obtain ⟨k2, _, _, _⟩ := hw3.cell hbn; rw [HXB.out] at k2; clear hw3 hb3)
        have HCC := Lib.hid (HCL.out _ _ _ _ _ HSW3.out HB3.out.size)
        clear k1 k2
        go_upto_region 11 with (go_at_call 51; refine HCC.out.mono ?_; rintro e w4 ⟨rfl, hw4, hb4⟩)
        have HB4 := Lib.hid (HB3.out.trans hb4)
        have HUU := Lib.hid (HUN.out _ _ _ _ _ hw4 HB4.out.size)
        clear hw4 hb4
        go_upto_region 12 with (go_at_call 52; refine HUU.out.mono ?_; rintro e w5 ⟨rfl, hw5, hb5⟩)
        have HB5 := Lib.hid (HB4.out.trans hb5)
        have HDD2 := Lib.hid (drop_any (k := b) hw5 hbn hn HB5.out.size)
        clear hw5 hb5
        go_wp2_with (go_at_call 53; refine HDD2.out.mono ?_; rintro e w6 ⟨rfl, hw6, hb6⟩; have k1 := hw6.ptr)
        go_ret2
        exact DlOut.good HDC.out HDU.out hw6.2 (HB5.out.trans hb6)
      · have hy4 : y = 4 := by rw [← hy, h4']; rfl
        have t2 : ((y : Int) == 2) = false := by simp; omega
        have t4 : ((y : Int) == 4) = true := by simp; omega
        have hdb := hE.dir h4'
        have hez := lsD_zero hdb
        have htb : tTab b = 12 := if_neg hb0
        rw [htb] at hez
        have HNM := Lib.hid (fun (W : World) (q c2 : Nat) (A2 : Option Addr) (hW : SpR W q n A2 c2 s) => l18Names_any HU.out hW hn H32.out hdb)
        have hpl := putL_len [] (lsD u b 8)
        obtain ⟨m, hm'⟩ : ∃ m, (putL [] (lsD u b 8)).length = m := ⟨_, rfl⟩
        rw [hm'] at HNM hpl
        have hmz : m = 0 ↔ ∀ j, j < 8 → u b (12 + j) = 0 := by rw [← hez, hpl]; simp
        by_cases hm0 : m = 0
        · have HDC := Lib.hid (hdc.trans (hck hb0 (fun q => q.2 (hmz.1 hm0))))
          subst hm0
          have hprt : prtL u b = [] := if_neg (by rw [h4']; decide)
          rw [hprt] at hdU
          obtain ⟨hon, ha32, hWl, hWn, hdel⟩ := del_facts (W := u) (P := []) hdd hl hle hbl hbnm (fun x hx => by cases hx) hoa (fun i hi => rfl) (fun j h1 h2' => rfl)
          have HDU := Lib.hid (HUV.out.trans (hdU.trans hdel.symm))
          have HUN := Lib.hid (fun (W : World) (q B ga c2 : Nat) (hW : SpW W q n B ga c2 u) (hB : B ≤ W.heap.size) => unlink_any hW hdn hbn hn hB hWn hnm hWl hln hbl hoa)
          clear hee hc0 hc6 hck hdO hdU hdl hdc hl hle hbl hbnm hxb hub hy4 hln hoa hprt hWl hWn hdel hdd hnm hez hmz hm' hpl hdb h4'
          go_enter Tryz.func20, Tryz.ntmps20
          go_upto_region 4 with (go_at_call 26; refine HOP.out.mono ?_; rintro e w2 ⟨q, A2, c2, rfl, hr, ho, hb2⟩)
          have HC := Lib.hid (HFI.out w2 q c2 A2 ⟨hr, own_slR ho⟩)
          have HT := Lib.hid (show SpR w2 q n A2 c2 s from ⟨hr, own_slR ho⟩)
          obtain ⟨ga, hA2, hsw⟩ := HSP.out w2 q _ c2 A2 hr ho
          subst hA2
          have HSW := Lib.hid hsw
          have HB2 := Lib.hid hb2
          clear hr ho hb2 hsw
          go_upto_region 9 with (first
            | (go_at_call 27; refine HC.out.mono ?_; rintro e w3 ⟨rfl, hb3⟩; have hw3 := HSW.out.below hb3; have HSW3 := Lib.hid hw3; have HT3 := Lib.hid (HT.out.below hb3); have HB3 := Lib.hid (HB2.out.trans (hb3.mono HB2.out.size)); have k1 := hw3.ptr; obtain ⟨k2, _, _, _⟩ := hw3.cell hbn; rw [HXB.out] at k2; clear hw3 hb3)
            | (go_at_call 50; refine (HNM.out _ _ _ _ HT3.out).mono ?_; rintro e w4 ⟨g4, c4, rfl, _, hb4⟩; have HSW4 := Lib.hid (HSW3.out.below hb4); have HB4 := Lib.hid (HB3.out.trans (hb4.mono HB3.out.size)); clear hb4))
          have HUU := Lib.hid (HUN.out _ _ _ _ _ HSW4.out HB4.out.size)
          have k3 := HSW4.out.ptr
          obtain ⟨k4, _, _, _⟩ := HSW4.out.cell hbn
          rw [HXB.out] at k4
          clear k1 k2
          go_upto_region 12 with (go_at_call 52; refine HUU.out.mono ?_; rintro e w5 ⟨rfl, hw5, hb5⟩)
          have HB5 := Lib.hid (HB4.out.trans hb5)
          have HDD2 := Lib.hid (drop_any (k := b) hw5 hbn hn HB5.out.size)
          clear hw5 hb5
          go_wp2_with (go_at_call 53; refine HDD2.out.mono ?_; rintro e w6 ⟨rfl, hw6, hb6⟩; have k1 := hw6.ptr)
          go_ret2
          exact DlOut.good HDC.out HDU.out hw6.2 (HB5.out.trans hb6)
        · have HDC := Lib.hid (hdc.trans (hc6 hb0 h4' (fun q => hm0 (hmz.2 q))))
          have t6 : decide ((m : Int) > 0) = true := by simp; omega
          have t6' : decide ((0 : Int) < (m : Int)) = true := by simp; omega
          clear hee hc0 hc6 hck hdO hdU hdl hdc hl hle hbl hbnm hxb hub hy4 hln hoa hdd hnm hez hmz hm' hpl hdb h4'
          go_enter Tryz.func20, Tryz.ntmps20
          go_upto_region 4 with (go_at_call 26; refine HOP.out.mono ?_; rintro e w2 ⟨q, A2, c2, rfl, hr, ho, hb2⟩)
          have HC := Lib.hid (HFI.out w2 q c2 A2 ⟨hr, own_slR ho⟩)
          have HT := Lib.hid (show SpR w2 q n A2 c2 s from ⟨hr, own_slR ho⟩)
          obtain ⟨ga, hA2, hsw⟩ := HSP.out w2 q _ c2 A2 hr ho
          subst hA2
          have HSW := Lib.hid hsw
          have HB2 := Lib.hid hb2
          clear hr ho hb2 hsw
          go_wp2_with (first
            | (go_at_call 27; refine HC.out.mono ?_; rintro e w3 ⟨rfl, hb3⟩; have hw3 := HSW.out.below hb3; have HSW3 := Lib.hid hw3; have HT3 := Lib.hid (HT.out.below hb3); have HB3 := Lib.hid (HB2.out.trans (hb3.mono HB2.out.size)); have k1 := hw3.ptr; obtain ⟨k2, _, _, _⟩ := hw3.cell hbn; rw [HXB.out] at k2; clear hw3 hb3)
            | (go_at_call 50; refine (HNM.out _ _ _ _ HT3.out).mono ?_; rintro e w4 ⟨g4, c4, rfl, _, hb4⟩; have HB4 := Lib.hid (HB3.out.trans (hb4.mono HB3.out.size)); clear hb4))
          go_ret2
          exact DlOut.bad (k := 6) HDC.out (by decide) (own_nilE _ _ _ _ HB4.out.size) (HB4.out.alloc HB4.out.size _)
  · have hdc := dltC_bad h0
    have HOP := Lib.hid (hop.mono (R' := fun e w' => _) (fun e w' h => h.bad' h0))
    obtain ⟨k, hk⟩ : ∃ k, (askT n s p).1 = k := ⟨_, rfl⟩
    rw [hk] at HOP h0 hdc
    have HDC := Lib.hid hdc
    have t1 : ((k : Int) != 0) = true := by simp; omega
    clear hop hs hk hdc hUV
    go_enter Tryz.func20, Tryz.ntmps20
    go_wp2_with (go_at_call 26; refine HOP.out.mono ?_; rintro e w2 ⟨rfl, hb2⟩)
    go_ret2
    exact DlOut.bad HDC.out h0 (own_nilE w2 _ _ _ hb2.size) (hb2.alloc hb2.size _)
end Go.Proofs.YtiefcgmghkkbmaaGreatDoor
namespace Go.Proofs.YtiefcgmghkkbmaaGreatDoor
open Go Go.ChangeShapes Go.WideShapes Go.ChangeAt Go.RowKit lib
set_option linter.unusedVariables false
set_option linter.unusedSimpArgs false
set_option maxRecDepth 100000
theorem own_oneI (w : World) (B : Nat) (b : Nat) (hB : B ≤ w.heap.size) : (w.alloc (.cells #[.int .i64 (b : Int)] 2)).ownsRow B 2 1 (.slice (some ⟨w.heap.size, 0, none⟩) 1 1) 1 (([b] : List Nat).map fun (k : Nat) => Value.int .i64 (k : Int)) :=
  ⟨by simp, .inr ⟨w.heap.size, 1, #[.int .i64 (b : Int)], rfl, hB, heap_alloc_new w _, Nat.le_refl _, by simp [maxLen], by simp, by simp⟩⟩
set_option maxHeartbeats 32000000 in
theorem implDelete_any {w : World} {A : Option Addr} {n c : Nat} {s : Nat → ByteArray} {p : ByteArray} (hm : n ≤ 1048576) (hp : p.size ≤ 1048576) (hs : Sl w w.heap.size A n (fun i => .string (s i))) (hml : MaxL w) :
    Calls Tryz.prog 21 #[.slice A n c, .string p] w (DlOut n s p w) := by
  have hop := openPath_any (c := c) hm hp hs hml
  have hUV : ∀ x y z, (fun i => byteAt (s i)) = x → (askT n s p).2.1 = y → (askT n s p).2.2 = z → dlU (fun i => byteAt (s i)) (askT n s p).2.1 (askT n s p).2.2 = dlU x y z := by
    rintro _ _ _ rfl rfl rfl
    rfl
  by_cases h0 : (askT n s p).1 = 0
  · have hdc := dltC_ok h0
    obtain ⟨hc, hdd, hnm⟩ := askT_zero h0
    obtain ⟨⟨h4, hn, h32⟩, _⟩ := tCode_zero hc
    have HOP := Lib.hid (hop.mono (R' := fun e w' => _) (fun e w' h => h.good' h0))
    obtain ⟨u, hu⟩ : ∃ u : Nat → Nat → UInt8, (fun i => byteAt (s i)) = u := ⟨_, rfl⟩
    obtain ⟨d, hd⟩ : ∃ d, (askT n s p).2.1 = d := ⟨_, rfl⟩
    obtain ⟨nm, hnm'⟩ : ∃ d, (askT n s p).2.2 = d := ⟨_, rfl⟩
    have HUV := Lib.hid (hUV u d nm hu hd hnm')
    rw [hu] at hdd hdc HOP
    rw [hd] at hdd HOP hdc
    rw [hnm'] at hnm HOP hdc
    have hee := lookU_ee hdd nm
    have hdl := del_look (nm := nm) hdd
    have hc0 := dlC_none (u := u) (d := d) (nm := nm)
    have hc6 := dlC_full (u := u) (d := d) (nm := nm)
    have hck := dlC_ok (u := u) (d := d) (nm := nm)
    have hdO : dlO u d nm = ownL (lookU u d nm) (lkL (nx2 u) (u d (tTab d + tHash nm)).toNat) (d, tTab d + tHash nm) := rfl
    have hdU : dlU u d nm = delI u (dlO u d nm).1 (dlO u d nm).2 (lookU u d nm) (prtL u (lookU u d nm)) := rfl
    obtain ⟨b, hb⟩ : ∃ b, lookU u d nm = b := ⟨_, rfl⟩
    rw [hb] at HOP hee hdl hc0 hc6 hck hdO hdU
    clear hop h0 hc hs hml hu hd hnm' hb h32 hUV
    by_cases hb0 : b = 0
    · have HDC := Lib.hid (hdc.trans (hc0 hb0))
      subst hb0
      clear hee hc0 hc6 hck hdO hdU hdl hdc hdd hnm
      go_enter Tryz.func21, Tryz.ntmps21
      go_wp2_with (go_at_call 29; refine HOP.out.mono ?_; rintro e w2 ⟨gp, gr, bl, cp, rfl, ht, hb2⟩)
      go_ret2
      exact DlOut.bad (k := 3) HDC.out (by decide) (World.ownsRow_nil _ _ _ _) hb2
    · have hE : EE n u d b := hee.resolve_left hb0
      obtain ⟨l, hl, hle, hbl, hbnm⟩ := hdl hb0
      have hbn := hE.lt
      have t0 : ((b : Int) == 0) = false := by simp; omega
      have hbi : (b : Int) < (n : Int) := by omega
      obtain ⟨y, hy⟩ : ∃ y, (u b 0).toNat = y := ⟨_, rfl⟩
      have hy2 : y < 256 := by rw [← hy]; exact UInt8.toNat_lt _
      have HY := Lib.hid hy
      rw [lkL_eq hl] at hdO
      obtain ⟨o, a, hoa⟩ : ∃ o a, ownL b l (d, tTab d + tHash nm) = (o, a) := ⟨_, _, rfl⟩
      rw [hoa] at hdO
      rw [hdO] at hdU
      have hdn := hdd.1
      have hdi : (d : Int) < (n : Int) := by omega
      have HHO := Lib.hid (hashOf_any nm (nameS_size hnm))
      have HDDD := Lib.hid hdd.2.2
      have hT := tTab_le d
      have hH := tHash_lt nm
      have HL := Lib.hid (show ∃ l, Lnk (nx2 u) (u d (tTab d + tHash nm)).toNat l ∧ (∀ x ∈ l, x < n) ∧ b ∈ l ∧ ownL b l (d, tTab d + tHash nm) = (o, a) from ⟨l, hl, fun x hx => (hle x hx).lt, hbl, hoa⟩)
      have hB0 : ∀ P, (∀ x ∈ P, x < n ∧ x ≠ 0 ∧ u x 0 = 3) → ∀ k ∈ b :: P, k < n ∧ k ≠ 0 := fun P hP k hk => by
        rcases List.mem_cons.1 hk with rfl | hk
        · exact ⟨hbn, hb0⟩
        · exact ⟨(hP k hk).1, (hP k hk).2.1⟩
      rcases hE.kind with h2 | h4'
      · have hy4 : y = 2 := by rw [← hy, h2]; rfl
        subst hy4
        have HDC := Lib.hid (hdc.trans (hck hb0 (fun q => by rw [h2] at q; exact absurd q.1 (by decide))))
        obtain ⟨P, hP, hPl, hPm, hPn⟩ := file_parts hE h2
        have hprt : prtL u b = P := by
          unfold prtL
          rw [if_pos h2, lkL_eq hP]
        rw [hprt] at hdU
        have HDU := Lib.hid (HUV.out.trans hdU)
        have HPA := Lib.hid (fun (W : World) (gp gr B : Nat) (bl cp : Nat → Nat) (hW : TreD W gp gr n B bl cp u) => parts_any hW hn hbn hP hPl (fun y hy => (hPm y hy).1))
        have HKK := Lib.hid (hB0 P hPm)
        clear hee hc0 hc6 hck hdO hdU hdl hdc hl hle hbl hbnm hoa hP hPm hPn hprt hdd hnm h2 hE hy hB0
        obtain ⟨L, hL⟩ : ∃ L, P.length = L := ⟨_, rfl⟩
        have HLL := Lib.hid hL
        rw [hL] at HPA hPl
        clear hL
        go_enter Tryz.func21, Tryz.ntmps21
        go_upto_region 6 with (go_at_call 29; refine HOP.out.mono ?_; rintro e w2 ⟨gp, gr, bl, cp, rfl, ht, hb2⟩)
        have hal := (Below.refl w2.heap.size w2).alloc (Nat.le_refl _) (.cells #[.int .i64 (b : Int)] 2)
        have HT2 := Lib.hid (ht.below hal)
        have HB2 := Lib.hid (hb2.trans (hal.mono hb2.size))
        have HO2 := Lib.hid (own_oneI w2 w.heap.size b hb2.size)
        clear ht hb2 hal
        go_upto_region 7 with fail
        generalize hgz : w2.heap.size = z2 at *
        clear hgz
        generalize w2.alloc (.cells #[.int .i64 (b : Int)] 2) = W2 at *
        obtain ⟨cap, k1⟩ := HT2.out.ptr
        have k2 := HT2.out.blk hbn
        have k3 := (HT2.out.row hbn).cell (i := 0) (by omega)
        rw [HY.out] at k3
        have HPC := Lib.hid (HPA.out _ _ _ _ _ _ HT2.out)
        obtain ⟨i0, hi0, hi1, hi2, hi3⟩ := info_parts infoI64T
        go_upto_region 11 with (first
          | (go_at_call 54; refine HPC.out.mono ?_; rintro e w3 ⟨A3, c3, rfl, ho3, hb3⟩; have HT3 := Lib.hid (HT2.out.below hb3); have HO3 := Lib.hid (own_below HO2.out hb3); have HS3 := Lib.hid ((own_sl ho3).congr (g := fun i => .int .i64 ((P.getD i 0 : Nat) : Int)) (fun i hi => by have hi' : i < P.length := (by rw [HLL.out]; omega); simp [hi'])); have HB3 := Lib.hid (HB2.out.trans (hb3.mono HB2.out.size)); clear ho3 hb3)
          | (at_builtin; refine wpList_appR rfl (.tmp 40) (.tmp 43) 91 rfl w.heap.size 2 i0 (.int .i64 0) 1 8 Tryz.underlying91 hi0 hi1 hi2 hi3 rfl (by omega) _ 1 _ (by rfl) HO3.out A3 L c3 _ (fun i => .int .i64 ((P.getD i 0 : Nat) : Int)) (by rfl) HS3.out (fun _ => rfl) (by simp only [maxLen]; omega) (by omega) HB3.out.size ?_; intro A4 c4 w4 ho4 hg4 hown4))
        have hb4 := HB3.out.grown hg4 HB3.out.size (own_lt HO3.out)
        have HT4 := Lib.hid (show TreD w4 gp gr n w.heap.size bl cp u from ⟨⟨by
          obtain ⟨⟨⟨cap, a1⟩, ⟨cs, a2, a3, a4⟩, a5, a6, a7, a8⟩, _⟩ := HT3.out
          exact ⟨cap, a1.grown hg4 (own_ne HO3.out a1 (by decide))⟩, by
          obtain ⟨⟨⟨cap, a1⟩, ⟨cs, a2, a3, a4⟩, a5, a6, a7, a8⟩, _⟩ := HT3.out
          exact ⟨cs, a2.grown hg4 (own_ne HO3.out a2 (by decide)), a3, a4⟩, fun i hi => ⟨((HT3.out.1.2.2.1 i hi).1).grown hg4 (own_neB HO3.out (HT3.out.1.2.2.1 i hi).1 (by decide)), (HT3.out.1.2.2.1 i hi).2⟩, HT3.out.1.2.2.2.1, HT3.out.1.2.2.2.2.1, HT3.out.1.2.2.2.2.2⟩, HT3.out.2⟩)
        have HB4 := Lib.hid hb4
        have ho5 : w4.ownsRow w.heap.size 2 1 (.slice A4 (1 + L) c4) (1 + L) ((b :: P).map fun (k : Nat) => Value.int .i64 (k : Int)) := by
          have e1 : ((b :: P).map fun (k : Nat) => Value.int .i64 (k : Int)) = (([b] : List Nat).map fun (k : Nat) => Value.int .i64 (k : Int)) ++ (List.range (L * 1)).map (fun i => Value.int .i64 ((P.getD i 0 : Nat) : Int)) := by
            rw [Nat.mul_one, ← HLL.out]
            show _ :: _ = [_] ++ _
            rw [List.singleton_append]
            congr 1
            apply List.ext_getElem
            · simp
            · intro i h1 h2
              simp at h1
              simp [List.getElem?_eq_getElem h1]
          rw [e1]
          exact ho4
        have HO4 := Lib.hid ho5
        have hmk : 1 + L = (b :: P).length := by rw [List.length_cons, HLL.out]; omega
        have hmk2 : 1 + L ≤ 1000 := by omega
        clear ho4 hg4 hown4 hb4 ho5 k1 k2 k3
        obtain ⟨mL, hmL⟩ : ∃ m, 1 + L = m := ⟨_, rfl⟩
        rw [hmL] at HO4 hmk hmk2 ⊢
        have HMK := Lib.hid hmk
        clear hmL hmk
        obtain ⟨cap4, k1⟩ := HT4.out.ptr
        have k2 := HT4.out.blk hdn
        have HTB := Lib.hid (table_any (HT4.out.row hdn) (HT4.out.2 d hdn) HDDD.out)
        obtain ⟨t, ht'⟩ : ∃ t, tTab d = t := ⟨_, rfl⟩
        obtain ⟨h, hh'⟩ : ∃ h, tHash nm = h := ⟨_, rfl⟩
        rw [ht'] at HTB hT HL
        rw [hh'] at HHO hH HL
        clear ht' hh'
        have hhi : (h : Int) < 8 := by omega
        go_upto_region 13 with (first
          | (go_at_call 56; refine HTB.out.mono ?_; rintro e w' ⟨rfl, hw'⟩; rw [← hw']; clear hw' w')
          | (go_at_call 57; refine (HHO.out _).mono ?_; rintro e w' ⟨rfl, hw'⟩; rw [← hw']; clear hw' w'))
        clear k1 k2
        obtain ⟨R0, hR0⟩ := HL.out
        have HR0 := Lib.hid hR0
        clear hR0
        go_loopg [12, 13] (R0.length + 1) (fun g' s12 s13 wy => ∃ (k j : Nat) (R : List Nat), R.length + 1 ≤ g' ∧ k < n ∧ j < 32 ∧ s12 = .slice (some ⟨bl k, 0, none⟩) 32 (cp k) ∧ s13 = .pointer (some ⟨bl k, j, none⟩) ∧ Lnk (nx2 u) (u k j).toNat R ∧ (∀ x ∈ R, x < n) ∧ b ∈ R ∧ ownL b R (k, j) = (o, a) ∧ TreD wy gp gr n w.heap.size bl cp u ∧ wy.ownsRow w.heap.size 2 1 (.slice A4 mL c4) mL ((b :: P).map fun (k : Nat) => Value.int .i64 (k : Int)) ∧ Below w.heap.size w wy)
        case atStart => exact ⟨d, t + h, R0, Nat.le_refl _, hdn, by omega, rfl, rfl, HR0.out.1, HR0.out.2.1, HR0.out.2.2.1, HR0.out.2.2.2, HT4.out, HO4.out, HB4.out⟩
        case round =>
          obtain ⟨k, j, R, hg', hk, hj, rfl, rfl, hR, hRn, hbR, how, ht, ho, hb⟩ := hrel
          have HTR := Lib.hid ht
          have HOR := Lib.hid ho
          have HBR := Lib.hid hb
          obtain ⟨cap5, k1⟩ := ht.ptr
          have hrow := ht.row hk
          have k3 := hrow.cell (i := j) hj
          obtain ⟨y, hy⟩ : ∃ y, (u k j).toNat = y := ⟨_, rfl⟩
          have hy2 : y < 256 := by rw [← hy]; exact UInt8.toNat_lt _
          rw [hy] at k3 hR
          have hR0' : y ≠ 0 := fun e => by
            rw [e] at hR
            have := hR.zero
            rw [this] at hbR
            cases hbR
          obtain ⟨R', rfl, h5⟩ := hR.step hR0'
          have hyn := hRn y List.mem_cons_self
          have hyi : (y : Int) < (n : Int) := by omega
          have k4 := ht.blk hyn
          by_cases hyb : y = b
          · have t1 : ((y : Int) != (b : Int)) = false := by simp; omega
            have how2 : (k, j) = (o, a) := by rw [← how, ownL, if_pos hyb]
            simp only [Prod.mk.injEq] at how2
            obtain ⟨e1, e2⟩ := how2
            have k2 := ht.blk hbn
            have k5 := (ht.row hbn).cell (i := 2) (by omega)
            have f3 := hrow.frozen (i := j) hj
            have HR2 := Lib.hid (hrow.set (i := j) (u b 2) (y := ((u b 2).toNat : Int)) rfl)
            have hgk := only_setCell (p := ⟨bl k, j, none⟩) (only_refl wr (some (bl k))) (.inl rfl) (.int .u8 ((u b 2).toNat : Int))
            have HGK := Lib.hid hgk
            have HBK := Lib.hid (HBR.out.setCell (p := ⟨bl k, j, none⟩) (show w.heap.size ≤ bl k from (ht.1.2.2.1 k hk).2) (.int .u8 ((u b 2).toNat : Int)))
            have hOK := ho.kept hgk (.inr (fun e => own_neB ho hrow (by decide) e.symm))
            have HOK := Lib.hid hOK
            have hblk : w.heap.size ≤ bl k := (ht.1.2.2.1 k hk).2
            have HE1 := Lib.hid (show o = k ∧ a = j from ⟨e1.symm, e2.symm⟩)
            clear hR h5 how e1 e2 hRn hbR hy ht ho hb hgk hOK hrow hyb
            go_upto_region 17 with fail
            clear k1 k2 k3 k4 k5 f3
            obtain ⟨v2, hv2⟩ : ∃ v, u b 2 = v := ⟨_, rfl⟩
            rw [hv2] at HR2 HGK HBK HOK ⊢
            have HV2 := Lib.hid hv2
            clear hv2
            generalize wr.setCell ⟨bl k, j, none⟩ (.int .u8 (v2.toNat : Int)) = W6 at *
            have HSE := Lib.hid (seal_any (bl k) (cp k) _ W6 HR2.out)
            go_upto_region 18 with (go_at_call 58; refine HSE.out.mono ?_; rintro e w7 ⟨rfl, hr7, hg7⟩)
            have ht7 : TreD w7 gp gr n w.heap.size bl cp (putB u o a (u b 2)) := by
              have h7 := HTR.out.setB hk hr7 (only_trans HGK.out hg7)
              obtain ⟨e1, e2⟩ := HE1.out
              subst e1 e2
              unfold putB
              rw [HV2.out]
              exact h7
            have hz6 : w.heap.size ≤ W6.heap.size := HBK.out.size
            have HB7 := Lib.hid (HBK.out.trans (below_only hg7 hblk hz6))
            have HO7 := Lib.hid (HOK.out.kept hg7 (.inr (fun e => own_neB HOK.out HR2.out (by decide) e.symm)))
            have HRE := Lib.hid (release_any ht7 hn HB7.out.size HMK.out hmk2 HKK.out HO7.out)
            clear hr7 hg7 ht7
            go_upto_region 19 with (go_at_call 59; refine HRE.out.mono ?_; rintro e w8 ⟨rfl, ht8, hb8⟩)
            have HB8 := Lib.hid (HB7.out.trans hb8)
            have HDI := Lib.hid (treeDisk_any gp gr n _ bl cp _ w8 ht8.1 hn (by omega))
            clear ht8 hb8
            go_wp2_with (go_at_call 44; refine HDI.out.mono ?_; rintro e w9 ⟨A9, c9, rfl, ho9, hb9⟩)
            go_ret2
            exact DlOut.good HDC.out HDU.out (own_base ho9 HB8.out.size) (HB8.out.trans (hb9.mono HB8.out.size))
          · have t1 : ((y : Int) != (b : Int)) = true := by simp; omega
            have hbR' : b ∈ R' := by
              rcases List.mem_cons.1 hbR with q1 | q1
              · exact absurd q1.symm hyb
              · exact q1
            have how2 : ownL b R' (y, 2) = (o, a) := by rw [← how, ownL, if_neg hyb]
            have HG := Lib.hid (show Lnk (nx2 u) (u y 2).toNat R' ∧ (∀ x ∈ R', x < n) ∧ b ∈ R' ∧ ownL b R' (y, 2) = (o, a) from ⟨h5, fun x hx => hRn x (List.mem_cons_of_mem _ hx), hbR', how2⟩)
            rw [List.length_cons] at hg'
            have hcy : (2 : Int) < 32 := by omega
            clear hR h5 how how2 hRn hbR hbR' hy ht ho hb hrow hyb
            go_upto_region 14 with fail
            go_cut [12] (fun s12 wx => s12 = .slice (some ⟨bl y, 0, none⟩) 32 (cp y) ∧ wx = wr.drew)
            case first =>
              go_region_law fail
              all_goals
                go_wp2_with fail
                go_meet
                exact ⟨rfl, rfl⟩
            case rest =>
              obtain ⟨rfl, rfl⟩ := hcut
              go_wp2_with fail
              go_roundg (R'.length + 1)
              case measure => omega
              case rel => exact ⟨y, 2, R', Nat.le_refl _, hyn, by omega, rfl, rfl, HG.out.1, HG.out.2.1, HG.out.2.2.1, HG.out.2.2.2, HTR.out.below (Below.refl _ _).drew, own_below HOR.out (Below.refl _ _).drew, HBR.out.drew⟩
      · have hy4 : y = 4 := by rw [← hy, h4']; rfl
        subst hy4
        have hdb := hE.dir h4'
        by_cases hz : ∀ j, j < 8 → u b (12 + j) = 0
        · have HDC := Lib.hid (hdc.trans (hck hb0 (fun q => q.2 hz)))
          have hprt : prtL u b = [] := if_neg (by rw [h4']; decide)
          rw [hprt] at hdU
          have HDU := Lib.hid (HUV.out.trans hdU)
          have HKK := Lib.hid (hB0 [] (fun x hx => by cases hx))
          have HZZ := Lib.hid hz
          have HKB := Lib.hid h4'
          clear hee hc0 hc6 hck hdO hdU hdl hdc hl hle hbl hbnm hoa hprt hdd hnm h4' hE hy hB0 hz hdb
          go_enter Tryz.func21, Tryz.ntmps21
          go_upto_region 6 with (go_at_call 29; refine HOP.out.mono ?_; rintro e w2 ⟨gp, gr, bl, cp, rfl, ht, hb2⟩)
          have hal := (Below.refl w2.heap.size w2).alloc (Nat.le_refl _) (.cells #[.int .i64 (b : Int)] 2)
          have HT2 := Lib.hid (ht.below hal)
          have HB2 := Lib.hid (hb2.trans (hal.mono hb2.size))
          have HO2 := Lib.hid (own_oneI w2 w.heap.size b hb2.size)
          clear ht hb2 hal
          go_upto_region 7 with fail
          generalize hgz : w2.heap.size = z2 at *
          clear hgz
          generalize w2.alloc (.cells #[.int .i64 (b : Int)] 2) = W2 at *
          obtain ⟨cap, k1⟩ := HT2.out.ptr
          have k2 := HT2.out.blk hbn
          have k3 := (HT2.out.row hbn).cell (i := 0) (by omega)
          rw [HY.out] at k3
          have hrb := HT2.out.row hbn
          have HTB2 := Lib.hid (tableDir_any (n := 0) hrb (HT2.out.2 b hbn) HKB.out)
          have HAZ := Lib.hid (fun (cc : Nat) => allZero_any (some ⟨bl b, 12, none⟩) 8 cc (fun i => u b (12 + i)) true (by omega) (tSl (o := 12) (m := 8) hrb (by omega)) ⟨fun _ => HZZ.out, fun _ => rfl⟩)
          clear hrb
          go_upto_region 11 with (first
            | (go_at_call 56; refine HTB2.out.mono ?_; rintro e w' ⟨rfl, hw'⟩; rw [← hw']; clear hw' w')
            | (go_at_call 55; refine (HAZ.out _).mono ?_; rintro e w4 ⟨rfl, hb3⟩))
          have HT4 := Lib.hid (HT2.out.below hb3)
          have HB4 := Lib.hid (HB2.out.trans (hb3.mono HB2.out.size))
          have HO4 := Lib.hid (own_below HO2.out hb3)
          clear hb3 k1 k2 k3
          obtain ⟨mL, hmL⟩ : ∃ m, 1 = m := ⟨_, rfl⟩
          have hmk : mL = ([b] : List Nat).length := hmL.symm
          have hmk2 : mL ≤ 1000 := by omega
          obtain ⟨A4, hA4⟩ : ∃ A, (some ⟨z2, 0, none⟩ : Option Addr) = A := ⟨_, rfl⟩
          obtain ⟨c4, hc4⟩ : ∃ c : Nat, 1 = c := ⟨_, rfl⟩
          have HO5 := Lib.hid (show w4.ownsRow w.heap.size 2 1 (.slice A4 mL c4) mL (([b] : List Nat).map fun (k : Nat) => Value.int .i64 (k : Int)) by rw [← hA4, ← hmL, ← hc4]; exact HO4.out)
          have HVL := Lib.hid (show Value.slice (some ⟨z2, 0, none⟩) 1 1 = .slice A4 mL c4 by rw [← hA4, ← hmL, ← hc4])
          rw [HVL.out]
          have HMK := Lib.hid hmk
          clear hmL hmk hA4 hc4 HO4 HVL
          obtain ⟨cap4, k1⟩ := HT4.out.ptr
          have k2 := HT4.out.blk hdn
          have HTB := Lib.hid (table_any (HT4.out.row hdn) (HT4.out.2 d hdn) HDDD.out)
          obtain ⟨t, ht'⟩ : ∃ t, tTab d = t := ⟨_, rfl⟩
          obtain ⟨h, hh'⟩ : ∃ h, tHash nm = h := ⟨_, rfl⟩
          rw [ht'] at HTB hT HL
          rw [hh'] at HHO hH HL
          clear ht' hh'
          have hhi : (h : Int) < 8 := by omega
          go_upto_region 13 with (first
            | (go_at_call 56; refine HTB.out.mono ?_; rintro e w' ⟨rfl, hw'⟩; rw [← hw']; clear hw' w')
            | (go_at_call 57; refine (HHO.out _).mono ?_; rintro e w' ⟨rfl, hw'⟩; rw [← hw']; clear hw' w'))
          clear k1 k2
          obtain ⟨R0, hR0⟩ := HL.out
          have HR0 := Lib.hid hR0
          clear hR0
          go_loopg [12, 13] (R0.length + 1) (fun g' s12 s13 wy => ∃ (k j : Nat) (R : List Nat), R.length + 1 ≤ g' ∧ k < n ∧ j < 32 ∧ s12 = .slice (some ⟨bl k, 0, none⟩) 32 (cp k) ∧ s13 = .pointer (some ⟨bl k, j, none⟩) ∧ Lnk (nx2 u) (u k j).toNat R ∧ (∀ x ∈ R, x < n) ∧ b ∈ R ∧ ownL b R (k, j) = (o, a) ∧ TreD wy gp gr n w.heap.size bl cp u ∧ wy.ownsRow w.heap.size 2 1 (.slice A4 mL c4) mL (([b] : List Nat).map fun (k : Nat) => Value.int .i64 (k : Int)) ∧ Below w.heap.size w wy)
          case atStart => exact ⟨d, t + h, R0, Nat.le_refl _, hdn, by omega, rfl, rfl, HR0.out.1, HR0.out.2.1, HR0.out.2.2.1, HR0.out.2.2.2, HT4.out, HO5.out, HB4.out⟩
          case round =>
            obtain ⟨k, j, R, hg', hk, hj, rfl, rfl, hR, hRn, hbR, how, ht, ho, hb⟩ := hrel
            have HTR := Lib.hid ht
            have HOR := Lib.hid ho
            have HBR := Lib.hid hb
            obtain ⟨cap5, k1⟩ := ht.ptr
            have hrow := ht.row hk
            have k3 := hrow.cell (i := j) hj
            obtain ⟨y, hy⟩ : ∃ y, (u k j).toNat = y := ⟨_, rfl⟩
            have hy2 : y < 256 := by rw [← hy]; exact UInt8.toNat_lt _
            rw [hy] at k3 hR
            have hR0' : y ≠ 0 := fun e => by
              rw [e] at hR
              have := hR.zero
              rw [this] at hbR
              cases hbR
            obtain ⟨R', rfl, h5⟩ := hR.step hR0'
            have hyn := hRn y List.mem_cons_self
            have hyi : (y : Int) < (n : Int) := by omega
            have k4 := ht.blk hyn
            by_cases hyb : y = b
            · have t1 : ((y : Int) != (b : Int)) = false := by simp; omega
              have how2 : (k, j) = (o, a) := by rw [← how, ownL, if_pos hyb]
              simp only [Prod.mk.injEq] at how2
              obtain ⟨e1, e2⟩ := how2
              have k2 := ht.blk hbn
              have k5 := (ht.row hbn).cell (i := 2) (by omega)
              have f3 := hrow.frozen (i := j) hj
              have HR2 := Lib.hid (hrow.set (i := j) (u b 2) (y := ((u b 2).toNat : Int)) rfl)
              have hgk := only_setCell (p := ⟨bl k, j, none⟩) (only_refl wr (some (bl k))) (.inl rfl) (.int .u8 ((u b 2).toNat : Int))
              have HGK := Lib.hid hgk
              have HBK := Lib.hid (HBR.out.setCell (p := ⟨bl k, j, none⟩) (show w.heap.size ≤ bl k from (ht.1.2.2.1 k hk).2) (.int .u8 ((u b 2).toNat : Int)))
              have hOK := ho.kept hgk (.inr (fun e => own_neB ho hrow (by decide) e.symm))
              have HOK := Lib.hid hOK
              have hblk : w.heap.size ≤ bl k := (ht.1.2.2.1 k hk).2
              have HE1 := Lib.hid (show o = k ∧ a = j from ⟨e1.symm, e2.symm⟩)
              clear hR h5 how e1 e2 hRn hbR hy ht ho hb hgk hOK hrow hyb
              go_upto_region 17 with fail
              clear k1 k2 k3 k4 k5 f3
              obtain ⟨v2, hv2⟩ : ∃ v, u b 2 = v := ⟨_, rfl⟩
              rw [hv2] at HR2 HGK HBK HOK ⊢
              have HV2 := Lib.hid hv2
              clear hv2
              generalize wr.setCell ⟨bl k, j, none⟩ (.int .u8 (v2.toNat : Int)) = W6 at *
              have HSE := Lib.hid (seal_any (bl k) (cp k) _ W6 HR2.out)
              go_upto_region 18 with (go_at_call 58; refine HSE.out.mono ?_; rintro e w7 ⟨rfl, hr7, hg7⟩)
              have ht7 : TreD w7 gp gr n w.heap.size bl cp (putB u o a (u b 2)) := by
                have h7 := HTR.out.setB hk hr7 (only_trans HGK.out hg7)
                obtain ⟨e1, e2⟩ := HE1.out
                subst e1 e2
                unfold putB
                rw [HV2.out]
                exact h7
              have hz6 : w.heap.size ≤ W6.heap.size := HBK.out.size
              have HB7 := Lib.hid (HBK.out.trans (below_only hg7 hblk hz6))
              have HO7 := Lib.hid (HOK.out.kept hg7 (.inr (fun e => own_neB HOK.out HR2.out (by decide) e.symm)))
              have HRE := Lib.hid (release_any ht7 hn HB7.out.size HMK.out hmk2 HKK.out HO7.out)
              clear hr7 hg7 ht7
              go_upto_region 19 with (go_at_call 59; refine HRE.out.mono ?_; rintro e w8 ⟨rfl, ht8, hb8⟩)
              have HB8 := Lib.hid (HB7.out.trans hb8)
              have HDI := Lib.hid (treeDisk_any gp gr n _ bl cp _ w8 ht8.1 hn (by omega))
              clear ht8 hb8
              go_wp2_with (go_at_call 44; refine HDI.out.mono ?_; rintro e w9 ⟨A9, c9, rfl, ho9, hb9⟩)
              go_ret2
              exact DlOut.good HDC.out HDU.out (own_base ho9 HB8.out.size) (HB8.out.trans (hb9.mono HB8.out.size))
            · have t1 : ((y : Int) != (b : Int)) = true := by simp; omega
              have hbR' : b ∈ R' := by
                rcases List.mem_cons.1 hbR with q1 | q1
                · exact absurd q1.symm hyb
                · exact q1
              have how2 : ownL b R' (y, 2) = (o, a) := by rw [← how, ownL, if_neg hyb]
              have HG := Lib.hid (show Lnk (nx2 u) (u y 2).toNat R' ∧ (∀ x ∈ R', x < n) ∧ b ∈ R' ∧ ownL b R' (y, 2) = (o, a) from ⟨h5, fun x hx => hRn x (List.mem_cons_of_mem _ hx), hbR', how2⟩)
              rw [List.length_cons] at hg'
              have hcy : (2 : Int) < 32 := by omega
              clear hR h5 how how2 hRn hbR hbR' hy ht ho hb hrow hyb
              go_upto_region 14 with fail
              go_cut [12] (fun s12 wx => s12 = .slice (some ⟨bl y, 0, none⟩) 32 (cp y) ∧ wx = wr.drew)
              case first =>
                go_region_law fail
                all_goals
                  go_wp2_with fail
                  go_meet
                  exact ⟨rfl, rfl⟩
              case rest =>
                obtain ⟨rfl, rfl⟩ := hcut
                go_wp2_with fail
                go_roundg (R'.length + 1)
                case measure => omega
                case rel => exact ⟨y, 2, R', Nat.le_refl _, hyn, by omega, rfl, rfl, HG.out.1, HG.out.2.1, HG.out.2.2.1, HG.out.2.2.2, HTR.out.below (Below.refl _ _).drew, own_below HOR.out (Below.refl _ _).drew, HBR.out.drew⟩
        · have HDC := Lib.hid (hdc.trans (hc6 hb0 h4' hz))
          have HZZ := Lib.hid hz
          have HKB := Lib.hid h4'
          clear hee hc0 hc6 hck hdO hdU hdl hdc hl hle hbl hbnm hoa hdd hnm h4' hE hy hB0 hz hdb
          go_enter Tryz.func21, Tryz.ntmps21
          go_upto_region 6 with (go_at_call 29; refine HOP.out.mono ?_; rintro e w2 ⟨gp, gr, bl, cp, rfl, ht, hb2⟩)
          have hal := (Below.refl w2.heap.size w2).alloc (Nat.le_refl _) (.cells #[.int .i64 (b : Int)] 2)
          have HT2 := Lib.hid (ht.below hal)
          have HB2 := Lib.hid (hb2.trans (hal.mono hb2.size))
          clear ht hb2 hal
          go_upto_region 7 with fail
          generalize hgz : w2.heap.size = z2 at *
          clear hgz
          generalize w2.alloc (.cells #[.int .i64 (b : Int)] 2) = W2 at *
          obtain ⟨cap, k1⟩ := HT2.out.ptr
          have k2 := HT2.out.blk hbn
          have k3 := (HT2.out.row hbn).cell (i := 0) (by omega)
          rw [HY.out] at k3
          have hrb := HT2.out.row hbn
          have HTB2 := Lib.hid (tableDir_any (n := 0) hrb (HT2.out.2 b hbn) HKB.out)
          have HAZ := Lib.hid (fun (cc : Nat) => allZero_any (some ⟨bl b, 12, none⟩) 8 cc (fun i => u b (12 + i)) false (by omega) (tSl (o := 12) (m := 8) hrb (by omega)) ⟨fun h => (by cases h), fun h => absurd h HZZ.out⟩)
          clear hrb
          go_wp2_with (first
            | (go_at_call 56; refine HTB2.out.mono ?_; rintro e w' ⟨rfl, hw'⟩; rw [← hw']; clear hw' w')
            | (go_at_call 55; refine (HAZ.out _).mono ?_; rintro e w4 ⟨rfl, hb3⟩))
          go_ret2
          exact DlOut.bad (k := 6) HDC.out (by decide) (World.ownsRow_nil _ _ _ _) (HB2.out.trans (hb3.mono HB2.out.size))
  · have hdc := dltC_bad h0
    have HOP := Lib.hid (hop.mono (R' := fun e w' => _) (fun e w' h => h.bad' h0))
    obtain ⟨k, hk⟩ : ∃ k, (askT n s p).1 = k := ⟨_, rfl⟩
    rw [hk] at HOP h0 hdc
    have HDC := Lib.hid hdc
    have t1 : ((k : Int) != 0) = true := by simp; omega
    clear hop hs hml hk hdc hUV
    go_enter Tryz.func21, Tryz.ntmps21
    go_wp2_with (go_at_call 29; refine HOP.out.mono ?_; rintro e w2 ⟨rfl, hb2⟩)
    go_ret2
    exact DlOut.bad HDC.out h0 (World.ownsRow_nil _ _ _ _) hb2
end Go.Proofs.YtiefcgmghkkbmaaGreatDoor
