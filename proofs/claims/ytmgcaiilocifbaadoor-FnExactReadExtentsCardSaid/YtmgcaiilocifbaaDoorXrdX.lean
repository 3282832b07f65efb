/-
  Disks of extents: a file's contents: both sides.
  Disks of extents: a file's contents: the reference's side, whole.
-/
import Derived.Test.YtmgcaiilocifbaaDoorXfU
import Derived.Test.YtmgcaiilocifbaaDoorXrdZ
import Derived.Test.YtmgcaiilocifbaaDoorXrdY
import Derived.Test.YtmgcaiilocifbaaDoorStbZ
import Derived.Deep.DeepCutAuto
import Derived.Test.YtmgcaiilocifbaaDoorXuS
namespace Go.Proofs.YtmgcaiilocifbaaDoor
open Go Go.ChangeShapes Go.WideShapes Go.ChangeAt Go.RowKit lib
set_option linter.unusedVariables false
set_option linter.unusedSimpArgs false
set_option maxRecDepth 100000
theorem own_neRx {w : World} {B e e' k n g : Nat} {v : Value} {xs : List Value} {cs : Array Value} (h : w.ownsRow B e k v n xs) (hr : Rw w g e' cs) (hne : e ≠ e') : some g ≠ v.ownBlock := by
  rcases h.2 with ⟨hv, _⟩ | ⟨o, cap, cur, hv, _, hg, _⟩
  · rw [hv]; simp [Value.ownBlock]
  · rw [hv]
    simp only [Value.ownBlock]
    intro e
    injection e with e
    subst e
    unfold Rw at hr
    rw [hr] at hg
    injection hg with hg
    injection hg with _ h2 _
    exact hne h2.symm
theorem XW.keptX {w w' : World} {p g n z E t N c : Nat} {u : Nat → UInt8} {row : Option Nat} (h : XW w p g n z E t N c u) (hg : w.grownBy w' row) (hp : some p ≠ row) (hq : some g ≠ row) : XW w' p g n z E t N c u := by
  have hlt := h.row.lt
  obtain ⟨cs, ⟨fr, hr, hf⟩, h2⟩ := h.row
  exact ⟨rwGrown h.lay hg hp, ⟨cs, ⟨fr, (hg.block g hlt hq).trans hr, hf⟩, h2⟩, h.ne⟩
/-- the entries of a file, in the order of the directory -/
noncomputable def fileL (n : Nat) (s : Nat → ByteArray) (nm : ByteArray) : List XE := xlist (s 0).size (joinU (s 0).size s) (fileOf n s nm)
def readsX (n : Nat) (s : Nat → ByteArray) (L : List XE) : Prop := ∀ k, k < L.length → okS n (dataX n (s 0).size) (s 0).size L k
open Classical in
noncomputable def rdXCode (n : Nat) (s : Nat → ByteArray) (nm : ByteArray) : Int := if opensX n s then (if fileOf n s nm = [] then 3 else if readsX n s (fileL n s nm) then 0 else 10) else 7
open Classical in
noncomputable def rdXText (n : Nat) (s : Nat → ByteArray) (nm : ByteArray) : ByteArray := if rdXCode n s nm = 0 then tS (outS (joinU (s 0).size s) (s 0).size (fileL n s nm) (fileL n s nm).length) else ⟨#[]⟩
theorem rdX_none {n : Nat} {s : Nat → ByteArray} {nm : ByteArray} (ho : opensX n s) (h : fileOf n s nm = []) : rdXCode n s nm = 3 := by unfold rdXCode; rw [if_pos ho, if_pos h]
theorem rdX_bad {n : Nat} {s : Nat → ByteArray} {nm : ByteArray} (ho : opensX n s) (h : fileOf n s nm ≠ []) (h2 : ¬ readsX n s (fileL n s nm)) : rdXCode n s nm = 10 := by unfold rdXCode; rw [if_pos ho, if_neg h, if_neg h2]
theorem rdX_ok {n : Nat} {s : Nat → ByteArray} {nm : ByteArray} (ho : opensX n s) (h : fileOf n s nm ≠ []) (h2 : readsX n s (fileL n s nm)) : rdXCode n s nm = 0 := by unfold rdXCode; rw [if_pos ho, if_neg h, if_pos h2]
/-- an entry with a number of one byte -/
abbrev XN := { x : XT // 0 ≤ x.1.no ∧ x.1.no ≤ 31 }
instance : Inhabited XN := ⟨⟨(xe0, none, 0), by decide⟩⟩
def encN (x : XN) : List Value := x.1.1.cells x.1.2.1 x.1.2.2
def cmpN (x y : XN) : Int := x.1.1.no - y.1.1.no
theorem swo_no : Go.Sort.SWO (ltOf cmpN) := by
  have key : ∀ a b : XN, ltOf cmpN a b = decide (a.1.1.no < b.1.1.no) := fun a b => by
    unfold ltOf cmpN
    rw [Bool.eq_iff_iff, decide_eq_true_eq, decide_eq_true_eq]
    omega
  refine ⟨fun x => ?_, fun x y z => ?_, fun x y z => ?_⟩
  · rw [key]; simp
  · rw [key, key, key]; simp only [decide_eq_true_eq]; omega
  · rw [key, key, key]; simp only [decide_eq_false_iff_not]; omega
theorem byNo_any (x y : XN) (W : World) : Calls Tryd.prog 49 (#[.agg (encN x).toArray, .agg (encN y).toArray] ++ #[]) W fun e w' => e = .returned (.int .i64 (cmpN x y)) ∧ ∃ q os', w' = Go.Sort.grow (W.drewN q) os' := by
  obtain ⟨⟨⟨st, nm, no, tl, bl⟩, ae, ce⟩, hx⟩ := x
  obtain ⟨⟨⟨st', nm', no', tl', bl'⟩, ae', ce'⟩, hy⟩ := y
  simp only at hx hy
  unfold encN cmpN XE.cells
  simp only
  generalize bl.length = m at *
  generalize bl'.length = m' at *
  have h1 : no - no' ≤ 31 := by omega
  have h2 : -31 ≤ no - no' := by omega
  have hw : IntKind.i64.wrap (no - no') = no - no' := by rw [IntKind.wrap_i64]; omega
  go_enter Tryd.func49, Tryd.ntmps49
  go_wp2
  go_ret
  exact ⟨rfl, 0, _, by rw [Go.Sort.alloc_eq_grow, Go.Sort.alloc_eq_grow, Go.Sort.grow_grow]; rfl⟩
/-- a file's extents, sorted by their numbers -/
theorem sortX_any {w : World} {Bd c : Nat} {A : Option Addr} {T : List XT} (g : Nat) (hg : ∀ (x y : XN) (W : World), Calls Tryd.prog g (#[.agg (encN x).toArray, .agg (encN y).toArray] ++ #[]) W fun e w' => e = .returned (.int .i64 (cmpN x y)) ∧ ∃ q os', w' = Go.Sort.grow (W.drewN q) os') (eg : ∀ args w, (callFunc g args).run Tryd.prog w = .ok (.enter g args) w)
    (h : ERow Bd w A T.length c T) (hT : T.length ≤ 32) (hno : ∀ x, x ∈ T → 0 ≤ x.1.no ∧ x.1.no ≤ 31) :
    Calls Tryd.prog 48 #[.slice A T.length c, .func (.func g) #[] #[]] w fun e w' => e = .returned (.tuple #[]) ∧ ∃ D : List XT, D.Perm T ∧ D.length = T.length ∧ (D.Pairwise fun a b => a.1.no ≤ b.1.no) ∧ ERow Bd w' A T.length c D ∧ w.grownBy w' (Value.slice A T.length c).ownBlock := by
  obtain ⟨L, hL⟩ : ∃ L : List XN, L.map (·.1) = T := ⟨T.attachWith _ hno, by rw [List.map_attachWith]; simp; exact List.attach_map_subtype_val T⟩
  have hlen : L.length = T.length := by rw [← hL, List.length_map]
  have hflat : ∀ D : List XN, (D.map (·.1)).flatMap (fun p : XT => p.1.cells p.2.1 p.2.2) = D.flatMap encN := fun D => by
    rw [List.flatMap_map]; rfl
  have h' : w.ownsRow Bd 56 5 (.slice A L.length c) L.length (L.flatMap encN) := by
    unfold ERow at h
    rw [← hflat, hL, hlen]
    exact h
  have hs := sortStable_row encN (fun _ => rfl) (fun x v hv => by
    simp only [encN, XE.cells, List.mem_cons, List.not_mem_nil, or_false] at hv
    rcases hv with rfl | rfl | rfl | rfl | rfl <;> rfl) cmpN swo_no g #[] eg hg h' (by omega)
  rw [hlen] at hs
  refine hs.mono ?_
  rintro e w' ⟨rfl, D, hp, hl, hsrt, ho, hgr⟩
  refine ⟨rfl, D.map (·.1), by rw [← hL]; exact hp.map _, by rw [List.length_map]; exact hl, ?_, ?_, hgr⟩
  · rw [List.pairwise_map]
    refine hsrt.imp ?_
    intro a b hab
    unfold ltOf cmpN at hab
    rw [decide_eq_false_iff_not] at hab
    omega
  · unfold ERow
    rw [hflat]
    exact ho
/-- how reading a file ends -/
def RdOut (n : Nat) (s : Nat → ByteArray) (nm : ByteArray) (r : Ending) (w w' : World) : Prop := r = .returned (.tuple #[.string (rdXText n s nm), .int .i64 (rdXCode n s nm)]) ∧ Below w.heap.size w w'
set_option maxHeartbeats 4000000 in
theorem implRdX_any {w : World} {n c : Nat} {A : Option Addr} {s : Nat → ByteArray} (nm : ByteArray) (hnm : nm.size ≤ 9223372036854775807) (hs : Sl w w.heap.size A n (fun i => .string (s i))) (hsz : ∀ i, i < n → (s i).size ≤ 9223372036854775807) (hn : n ≤ c) (hn2 : n ≤ 9223372036854775807) :
    Calls Tryd.prog 26 #[.slice A n c, .string nm] w fun r w' => RdOut n s nm r w w' := by
  have HO := Lib.hid (implOpenX hs hsz hn hn2)
  by_cases ho : opensX n s
  · obtain ⟨f1, f2, f3, f4, f5, f6, f7, f8, f9⟩ := shapeX ho
    have hfl : (fileOf n s nm).length ≤ 32 := Nat.le_trans (picks_len _ _) f7
    have hmem : ∀ j, j ∈ fileOf n s nm → j < entsX n ∧ isUsed (s 0).size (joinU (s 0).size s) j := fun j hj => ⟨(mem_picks.1 hj).1, (mem_picks.1 hj).2.1⟩
    have hfd : fileOf n s nm = picks (usedBy (s 0).size (joinU (s 0).size s) nm) (entsX n) := rfl
    have hcode : (fileOf n s nm = [] → rdXCode n s nm = 3) ∧ (fileOf n s nm ≠ [] → ¬ readsX n s (fileL n s nm) → rdXCode n s nm = 10) ∧ (fileOf n s nm ≠ [] → readsX n s (fileL n s nm) → rdXCode n s nm = 0) := ⟨rdX_none ho, rdX_bad ho, rdX_ok ho⟩
    have htext : rdXCode n s nm = 0 → rdXText n s nm = tS (outS (joinU (s 0).size s) (s 0).size (fileL n s nm) (fileL n s nm).length) := fun h => by unfold rdXText; rw [if_pos h]
    have htext2 : rdXCode n s nm ≠ 0 → rdXText n s nm = ⟨#[]⟩ := fun h => by unfold rdXText; rw [if_neg h]
    have hLd : fileL n s nm = xlist (s 0).size (joinU (s 0).size s) (fileOf n s nm) := rfl
    have hRd : ∀ L, readsX n s L ↔ ∀ k, k < L.length → okS n (dataX n (s 0).size) (s 0).size L k := fun L => Iff.rfl
    unfold RdOut
    obtain ⟨Z, hZ⟩ : ∃ Z, rdXText n s nm = Z := ⟨_, rfl⟩
    obtain ⟨cd, hcd⟩ : ∃ cd, rdXCode n s nm = cd := ⟨_, rfl⟩
    obtain ⟨l, hll⟩ : ∃ l, fileOf n s nm = l := ⟨_, rfl⟩
    obtain ⟨L, hL⟩ : ∃ L, fileL n s nm = L := ⟨_, rfl⟩
    rw [hcd, hll, hL] at hcode
    rw [hcd, hZ, hL] at htext
    rw [hcd, hZ] at htext2
    rw [hll] at hfl hmem hfd hLd
    rw [hL] at hLd
    rw [hZ, hcd]
    obtain ⟨z, hz⟩ : ∃ z, (s 0).size = z := ⟨_, rfl⟩
    rw [hz] at f2 f3 f6 f8 hmem hfd htext hLd hRd
    obtain ⟨U, hU⟩ : ∃ U, joinU z s = U := ⟨_, rfl⟩
    obtain ⟨t, ht⟩ : ∃ t, dataX n z = t := ⟨_, rfl⟩
    obtain ⟨E, hE⟩ : ∃ E, entsX n = E := ⟨_, rfl⟩
    have HZ := Lib.hid hz
    have HUU := Lib.hid hU
    have HTT := Lib.hid ht
    have HEE := Lib.hid hE
    rw [hU] at hmem hfd htext hLd
    rw [ht] at hRd
    rw [hE] at f7 f8 hmem hfd
    have HFI := Lib.hid (fun (W : World) (p g cc : Nat) (hx : XW W p g n z E t (n * z) cc U) (hcap : n * z ≤ cc) => (show Calls Tryd.prog 38 #[.pointer (some ⟨p, 0, none⟩), .string nm] W fun r w' => FOut2 r W w' (xen z U) l by rw [hfd]; exact implFileX2_any nm hx f7 f8 f6 hcap (by omega) hnm))
    have HOP := Lib.hid ho
    have HC := Lib.hid hcode
    have HTX := Lib.hid htext
    have HTX2 := Lib.hid htext2
    have HLD := Lib.hid hLd
    have HRD := Lib.hid (hRd L)
    have HME := Lib.hid hmem
    clear ho hs hsz hz hU ht hE hfd hcode htext htext2 hLd hRd hmem hZ hcd hll hL f1 f8 f9
    go_enter Tryd.func26, Tryd.ntmps26
    go_upto_region 5 with (first
      | (go_at_call 31; refine HO.out.mono ?_; rintro r w1 ⟨h1, _⟩; obtain ⟨p, rfl, ow⟩ := h1 HOP.out; rw [HZ.out] at ow; obtain ⟨g, cc, hx, hcap, hb1, hp, hg⟩ := ow; rw [HUU.out, HTT.out, HEE.out] at hx)
      | (go_at_call 38; refine (HFI.out _ _ _ _ hx hcap).mono ?_; rintro r w2 ⟨a, ca, A1, A2, c1, c2, Bd, rfl, her, hes, hBd1, hBd2, hna, hb2⟩))
    have hB2 := hb1.trans (hb2.mono hb1.size)
    have hx2 := hx.below hb2
    have HX2 := Lib.hid hx2
    have HB2 := Lib.hid hB2
    have HER := Lib.hid her
    have HES := Lib.hid hes
    have hpw := hx.lay.lt
    have hzw1 := hb1.size
    have hgw := hx.row.lt
    clear her hes hna hx hb1 hb2 hB2 hx2
    by_cases hl0 : l = []
    · subst hl0
      have h3 : cd = 3 := HC.out.1 rfl
      have h4 : Z = ⟨#[]⟩ := HTX2.out (by rw [h3]; decide)
      subst h3 h4
      go_wp2_with fail
      go_ret2
      exact ⟨rfl, HB2.out⟩
    · have hlp : 0 < l.length := List.length_pos_iff.2 hl0
      have e0 : ((l.length : Int) == 0) = false := by simp; omega
      have e0' : ((l.length : Int) = 0) = False := by simp; omega
      have e0n : (l = []) = False := by simp [hl0]
      obtain ⟨T, hT⟩ : ∃ T : List XT, l.map (fun j => (xen z U j, a j, ca j)) = T := ⟨_, rfl⟩
      have hTl : T.length = l.length := by rw [← hT, List.length_map]
      have hTm : T.map (·.1) = L := by rw [← hT, HLD.out, List.map_map]; rfl
      have hTx : ∀ x, x ∈ T → (x.1.ok z ∧ x.1.st = 1) := fun x hx => by
        rw [← hT] at hx
        obtain ⟨j, hj, rfl⟩ := List.mem_map.1 hx
        exact ⟨xen_ok z U j, (HME.out j hj).2⟩
      have hno : ∀ x, x ∈ T → 0 ≤ x.1.no ∧ x.1.no ≤ 31 := fun x hx => by
        obtain ⟨h1, h2⟩ := hTx x hx
        rcases h1 with ⟨h1, _⟩ | ⟨_, _, h1, _⟩
        · rw [h2] at h1; cases h1
        · exact h1
      have her := HER.out
      have hes := HES.out
      rw [hT] at her hes
      rw [← hTl] at her
      have hsort := sortX_any 49 (fun x y W => byNo_any x y W) (fun _ _ => rfl) her (by omega) hno
      rw [hTl] at hsort
      have HSO := Lib.hid hsort
      have HTL := Lib.hid hTl
      have HTM := Lib.hid hTm
      have HTX1 := Lib.hid hTx
      have HER2 := Lib.hid her
      have HES2 := Lib.hid hes
      clear hsort hTl hTm hTx hno her hes hT hl0 HER HES
      go_upto_region 8 with (go_at_call 48; refine HSO.out.mono ?_; rintro r w3 ⟨rfl, D, hp1, hDl, hsrt, hed, hgr⟩)
      have hDl2 : D.length = l.length := hDl
      rw [← hDl2] at hed hgr
      have hways := ways_agree (n := n) (t := t) (z := z) (U := U) (D := D.map (·.1)) (L := L) (by rw [← HTM.out]; exact hp1.map _) (by rw [List.pairwise_map]; exact hsrt)
      have hrowD : w2.ownsRow Bd 56 5 (.slice A1 D.length c1) D.length (T.flatMap fun p => p.1.cells p.2.1 p.2.2) := by
        have := HER2.out
        unfold ERow at this
        rw [HTL.out, ← hDl2] at this
        exact this
      have hx3 : XW w3 p g n z E t (n * z) cc U := HX2.out.keptX hgr (own_neRx hrowD HX2.out.lay (by decide)) (own_neB hrowD HX2.out.row (by decide))
      have hes3 : ESl Bd w3 D := fun x hx => by
        have h1 := HES2.out x (hp1.mem_iff.1 hx)
        refine h1.keep fun b o hb => ?_
        exact World.cell?_of_block (a := ⟨b, o, none⟩) (hgr.block b (by omega) (fun e => by have := own_lt hrowD b e.symm; omega))
      have hB3 : Below w.heap.size w w3 := HB2.out.grown hgr HB2.out.size (fun k hk => by have := own_lt hrowD k hk; omega)
      have hbl : ∀ x, x ∈ D → x.1.bl.length ≤ 4 ∧ 0 ≤ x.1.tl ∧ x.1.tl ≤ (z : Int) := fun x hx => by
        obtain ⟨h1, _⟩ := HTX1.out x (hp1.mem_iff.1 hx)
        exact ⟨XE.ok_len h1, xok_tl h1⟩
      have HX3 := Lib.hid hx3
      have HES3 := Lib.hid (hes3.more (show Bd ≤ w3.heap.size from Nat.le_trans hBd2 hgr.size))
      have HB3 := Lib.hid hB3
      have HED := Lib.hid hed
      have HBL := Lib.hid hbl
      have HWA := Lib.hid hways
      have HDL := Lib.hid hDl2
      clear hx3 hes3 hB3 hed hbl hways hrowD hgr hsrt hp1 hDl
      obtain ⟨bo, hbo⟩ : ∃ bo : Bool, bo = true ↔ okX n t z (D.map (·.1)) := by open Classical in exact ⟨decide (okX n t z (D.map (·.1))), decide_eq_true_iff⟩
      have hcp := implComplete_any HX3.out (by omega) (by omega) HED.out HES3.out (by omega) (by omega) (fun x hx => (HBL.out x hx).1) bo hbo
      rw [hDl2] at hcp
      have HCP := Lib.hid hcp
      have HBO := Lib.hid hbo
      clear hcp hbo
      cases bo with
      | false =>
        have hnr : ¬ readsX n s L := fun h => by
          have := HBO.out.2 (HWA.out.1.2 (HRD.out.1 h))
          cases this
        have h3 : cd = 10 := HC.out.2.1 (by simpa using e0n) hnr
        have h4 : Z = ⟨#[]⟩ := HTX2.out (by rw [h3]; decide)
        subst h3 h4
        clear hnr hDl2
        go_wp2_with (go_at_call 50; refine HCP.out.mono ?_; rintro r w4 ⟨rfl, hb4⟩)
        go_ret2
        exact ⟨rfl, HB3.out.trans (hb4.mono HB3.out.size)⟩
      | true =>
        have hok := HBO.out.1 rfl
        have hr := HRD.out.2 (HWA.out.1.1 hok)
        have h3 : cd = 0 := HC.out.2.2 (by simpa using e0n) hr
        have h4 : Z = ⟨(fileB U z (D.map (·.1))).toArray⟩ := by rw [HTX.out h3, HWA.out.2 hok]; rfl
        have HOK := Lib.hid hok
        subst h3 h4
        clear hok hr hDl2
        go_upto_region 10 with (go_at_call 50; refine HCP.out.mono ?_; rintro r w4 ⟨rfl, hb4⟩)
        have hco := implContents_any (HX3.out.below hb4) rfl f6 hcap f3 (by omega) f4 (HED.out.below hb4) ((HES3.out.below hb4).more hb4.size) (by rw [HDL.out]; exact hlp) (by rw [HDL.out]; omega) HBL.out HOK.out
        rw [HDL.out] at hco
        have HCO := Lib.hid hco
        have HB4 := Lib.hid hb4
        clear hco hb4
        go_wp2_with (go_at_call 51; refine HCO.out.mono ?_; rintro r w5 ⟨rfl, hb5⟩)
        go_ret2
        have hB4 := HB3.out.trans (HB4.out.mono HB3.out.size)
        exact ⟨rfl, hB4.trans (hb5.mono hB4.size)⟩
  · have hcode : rdXCode n s nm = 7 := by unfold rdXCode; rw [if_neg ho]
    have htx : rdXText n s nm = ⟨#[]⟩ := by unfold rdXText; rw [if_neg (by rw [hcode]; decide)]
    unfold RdOut
    rw [hcode, htx]
    have HOP := Lib.hid ho
    clear ho hs hsz hcode htx
    go_enter Tryd.func26, Tryd.ntmps26
    go_wp2_with (go_at_call 31; refine HO.out.mono ?_; rintro r w1 ⟨_, h1⟩; obtain ⟨rfl, hb1⟩ := h1 HOP.out)
    go_ret2
    exact ⟨rfl, hb1⟩
end Go.Proofs.YtmgcaiilocifbaaDoor
namespace Go.Proofs.YtmgcaiilocifbaaDoor
open Go Go.ChangeShapes Go.WideShapes Go.ChangeAt Go.RowKit lib
set_option linter.unusedVariables false
set_option linter.unusedSimpArgs false
set_option maxRecDepth 100000
set_option maxHeartbeats 4000000 in
theorem specRdX_any {w : World} {n c : Nat} {A : Option Addr} {s : Nat → ByteArray} (nm : ByteArray) (hnm : nm.size ≤ 9223372036854775807) (hs : Sl w w.heap.size A n (fun i => .string (s i))) (hsz : ∀ i, i < n → (s i).size ≤ 9223372036854775807) (hn : n ≤ c) (hn2 : n ≤ 9223372036854775807) :
    Calls Tryd.prog 25 #[.slice A n c, .string nm] w fun r w' => RdOut n s nm r w w' := by
  have HO := Lib.hid (specOpenX (c := c) hs hsz)
  by_cases ho : opensX n s
  · obtain ⟨f1, f2, f3, f4, f5, f6, f7, f8, f9⟩ := shapeX ho
    have HOP := Lib.hid ho
    by_cases hl : fileOf n s nm = []
    · have hcode := rdX_none ho hl
      have htx : rdXText n s nm = ⟨#[]⟩ := by unfold rdXText; rw [if_neg (by rw [hcode]; decide)]
      unfold RdOut
      rw [hcode, htx]
      unfold fileOf at hl
      obtain ⟨z, hz⟩ : ∃ z, (s 0).size = z := ⟨_, rfl⟩
      rw [hz] at f2 f3 f6 f8 f9 hl
      have HZ := Lib.hid hz
      have HUS := Lib.hid (fun (W : World) (q : Nat) (hW : Below w.heap.size w W) (hr : Rw W q 44 #[.int .i64 n, .int .i64 z, .int .i64 (entsX n), .int .i64 (dataX n z)]) => specUsedX_any (c := c) nm ((hs.below hW).more hW.size) f9 hr f2 f3 f4 f7 f8)
      by_cases hnm0 : nm = ⟨#[]⟩
      · subst hnm0
        clear ho hs hsz hz f1 f8 f9 hcode htx hl
        generalize picks (usedAs z (joinU z s) ⟨#[]⟩) (entsX n) = l at *
        go_enter Tryd.func25, Tryd.ntmps25
        go_upto_region 4 with (go_at_call 29; refine HO.out.mono ?_; rintro r w1 ⟨h1, _⟩; obtain ⟨rfl, hb1⟩ := h1 HOP.out; rw [HZ.out]; unfold layX)
        have hR2 := Rw.new w1 44 #[.int .i64 n, .int .i64 z, .int .i64 (entsX n), .int .i64 (dataX n z)]
        have hB2 := hb1.alloc hb1.size (.cells #[.int .i64 n, .int .i64 z, .int .i64 (entsX n), .int .i64 (dataX n z)] 44)
        obtain ⟨q, hq⟩ : ∃ q, w1.heap.size = q := ⟨_, rfl⟩
        generalize w1.alloc (.cells #[.int .i64 n, .int .i64 z, .int .i64 (entsX n), .int .i64 (dataX n z)] 44) = W2 at *
        rw [hq] at hR2 ⊢
        clear hq hb1
        go_upto_region 5 with (go_at_call 34; refine (HUS.out _ q hB2 hR2).mono ?_; rintro r w3 ⟨A2, c2, rfl, hna, hb3⟩)
        have hB3 := hB2.trans (hb3.mono hB2.size)
        rcases Nat.eq_zero_or_pos l.length with hl0 | hl0
        · rw [hl0]
          go_wp2_with fail
          go_ret2
          exact ⟨rfl, hB3⟩
        · have e0 : ((l.length : Int) == 0) = false := beq_false_of_ne (by omega)
          have e0' : ((l.length : Int) = 0) = False := eq_false (by omega)
          have e0n : (l = []) = False := by
            apply propext
            simp only [iff_false]
            intro h
            rw [h] at hl0
            cases hl0
          go_wp2_with fail
          go_ret2
          exact ⟨rfl, hB3⟩
      · rw [usedAs_by hnm0, hl] at HUS
        clear ho hs hsz hz f1 f8 f9 hcode htx hl
        go_enter Tryd.func25, Tryd.ntmps25
        go_upto_region 4 with (go_at_call 29; refine HO.out.mono ?_; rintro r w1 ⟨h1, _⟩; obtain ⟨rfl, hb1⟩ := h1 HOP.out; rw [HZ.out]; unfold layX)
        have hR2 := Rw.new w1 44 #[.int .i64 n, .int .i64 z, .int .i64 (entsX n), .int .i64 (dataX n z)]
        have hB2 := hb1.alloc hb1.size (.cells #[.int .i64 n, .int .i64 z, .int .i64 (entsX n), .int .i64 (dataX n z)] 44)
        obtain ⟨q, hq⟩ : ∃ q, w1.heap.size = q := ⟨_, rfl⟩
        generalize w1.alloc (.cells #[.int .i64 n, .int .i64 z, .int .i64 (entsX n), .int .i64 (dataX n z)] 44) = W2 at *
        rw [hq] at hR2 ⊢
        clear hq hb1
        go_wp2_with (go_at_call 34; refine (HUS.out _ q hB2 hR2).mono ?_; rintro r w3 ⟨A2, c2, rfl, hna, hb3⟩)
        go_ret2
        exact ⟨rfl, hB2.trans (hb3.mono hB2.size)⟩
    · have hnm0 : nm ≠ ⟨#[]⟩ := fun q => hl (by rw [q]; exact noName)
      have hco : (readsX n s (fileL n s nm) → rdXCode n s nm = 0) ∧ (¬ readsX n s (fileL n s nm) → rdXCode n s nm = 10) := ⟨rdX_ok ho hl, rdX_bad ho hl⟩
      have htx : (rdXCode n s nm = 0 → rdXText n s nm = tS (outS (joinU (s 0).size s) (s 0).size (fileL n s nm) (fileL n s nm).length)) ∧ (rdXCode n s nm ≠ 0 → rdXText n s nm = ⟨#[]⟩) := ⟨fun h => by unfold rdXText; rw [if_pos h], fun h => by unfold rdXText; rw [if_neg h]⟩
      have hRd : readsX n s (fileL n s nm) ↔ ∀ k, k < (fileL n s nm).length → okS n (dataX n (s 0).size) (s 0).size (fileL n s nm) k := Iff.rfl
      have hLd : fileL n s nm = xlist (s 0).size (joinU (s 0).size s) (fileOf n s nm) := rfl
      unfold RdOut
      obtain ⟨Z, hZ⟩ : ∃ Z, rdXText n s nm = Z := ⟨_, rfl⟩
      obtain ⟨cd, hcd⟩ : ∃ cd, rdXCode n s nm = cd := ⟨_, rfl⟩
      obtain ⟨l, hll⟩ : ∃ l, fileOf n s nm = l := ⟨_, rfl⟩
      rw [hcd] at hco htx
      rw [hZ] at htx
      rw [hZ, hcd]
      rw [hll] at hl hLd
      unfold fileOf at hll
      obtain ⟨z, hz⟩ : ∃ z, (s 0).size = z := ⟨_, rfl⟩
      rw [hz] at f2 f3 f6 f8 f9 hll htx hRd hLd
      rw [hLd] at hRd hco htx
      have hmem : ∀ j, j < l.length → l.getD j 0 < entsX n ∧ (xen z (joinU z s) (l.getD j 0)).st ≠ 0 := fun j hj => by
        have := getD_mem hj
        rw [← hll] at this
        have h2 := mem_picks.1 (by rwa [hll] at this ⊢)
        exact ⟨h2.1, by rw [show (xen z (joinU z s) (l.getD j 0)).st = 1 from h2.2.1]; decide⟩
      have hlen : l.length ≤ 32 := by rw [← hll]; exact Nat.le_trans (picks_len _ _) f7
      have HZ := Lib.hid hz
      have HUS := Lib.hid (fun (W : World) (q : Nat) (hW : Below w.heap.size w W) (hr : Rw W q 44 #[.int .i64 n, .int .i64 z, .int .i64 (entsX n), .int .i64 (dataX n z)]) => (show Calls Tryd.prog 34 #[.slice A n c, .pointer (some ⟨q, 0, none⟩), .string nm] W fun r w' => ∃ A2 c2, r = .returned (.slice A2 l.length c2) ∧ NatR W.heap.size w' A2 c2 l ∧ Below W.heap.size W w' by
        rw [← hll, ← usedAs_by hnm0]
        exact specUsedX_any (c := c) nm ((hs.below hW).more hW.size) f9 hr f2 f3 f4 f7 f8))
      have HRD := Lib.hid (fun (W : World) (q c3 : Nat) (A3 : Option Addr) (hW : Below w.heap.size w W) (hr : Rw W q 44 #[.int .i64 n, .int .i64 z, .int .i64 (entsX n), .int .i64 (dataX n z)]) (hl : Sl W W.heap.size A3 l.length (fun i => .int .i64 ((l.getD i 0 : Nat) : Int))) => specReadX_any (c := c) (c3 := c3) l ((hs.below hW).more hW.size) f9 hr f2 f3 f4 (by omega) f7 f8 hl hlen hmem)
      have hlp : 0 < l.length := List.length_pos_iff.2 hl
      have e0 : ((l.length : Int) == 0) = false := by simp; omega
      have e0' : ((l.length : Int) = 0) = False := by simp; omega
      have e0n : (l = []) = False := by simp [hl]
      have en0 : nm.toList.isEmpty = false := isEmpty_no hnm0
      have HCO := Lib.hid hco
      have HTX := Lib.hid htx
      have HRR := Lib.hid hRd
      clear ho hs hsz hz f1 f8 f9 hco htx hRd hLd hll hmem hl hnm0 hZ hcd
      unfold RdRet at HRD
      generalize xlist z (joinU z s) l = L at *
      go_enter Tryd.func25, Tryd.ntmps25
      go_upto_region 4 with (go_at_call 29; refine HO.out.mono ?_; rintro r w1 ⟨h1, _⟩; obtain ⟨rfl, hb1⟩ := h1 HOP.out; rw [HZ.out]; unfold layX)
      have hR2 := Rw.new w1 44 #[.int .i64 n, .int .i64 z, .int .i64 (entsX n), .int .i64 (dataX n z)]
      have hB2 := hb1.alloc hb1.size (.cells #[.int .i64 n, .int .i64 z, .int .i64 (entsX n), .int .i64 (dataX n z)] 44)
      obtain ⟨q, hq⟩ : ∃ q, w1.heap.size = q := ⟨_, rfl⟩
      generalize w1.alloc (.cells #[.int .i64 n, .int .i64 z, .int .i64 (entsX n), .int .i64 (dataX n z)] 44) = W2 at *
      rw [hq] at hR2 ⊢
      clear hq hb1
      go_upto_region 7 with (go_at_call 34; refine (HUS.out _ q hB2 hR2).mono ?_; rintro r w3 ⟨A2, c2, rfl, hna, hb3⟩)
      have hB3 := hB2.trans (hb3.mono hB2.size)
      have hR3 := hR2.below hb3 hR2.lt
      have HRC := Lib.hid (HRD.out w3 q c2 A2 hB3 hR3 hna.sl)
      have HB3 := Lib.hid hB3
      clear hB3 hR3 hna hb3 hR2 hB2
      by_cases hok : ∀ k, k < L.length → okS n (dataX n z) z L k
      · have h3 : cd = 0 := HCO.out.1 (HRR.out.2 hok)
        have h4 := HTX.out.1 h3
        have HOK := Lib.hid hok
        subst h3 h4
        clear hok
        go_wp2_with (go_at_call 47; refine HRC.out.mono ?_; rintro r w4 ⟨hb4, h5, _⟩; obtain rfl := h5 HOK.out)
        go_ret2
        exact ⟨rfl, HB3.out.trans (hb4.mono HB3.out.size)⟩
      · have h3 : cd = 10 := HCO.out.2 (fun h => hok (HRR.out.1 h))
        have h4 := HTX.out.2 (by rw [h3]; decide)
        have HOK := Lib.hid hok
        subst h3 h4
        clear hok
        go_wp2_with (go_at_call 47; refine HRC.out.mono ?_; rintro r w4 ⟨hb4, _, h5⟩; obtain rfl := h5 HOK.out)
        go_ret2
        exact ⟨rfl, HB3.out.trans (hb4.mono HB3.out.size)⟩
  · have hcode : rdXCode n s nm = 7 := by unfold rdXCode; rw [if_neg ho]
    have htx : rdXText n s nm = ⟨#[]⟩ := by unfold rdXText; rw [if_neg (by rw [hcode]; decide)]
    unfold RdOut
    rw [hcode, htx]
    have HOP := Lib.hid ho
    clear ho hs hsz hcode htx
    go_enter Tryd.func25, Tryd.ntmps25
    go_wp2_with (go_at_call 29; refine HO.out.mono ?_; rintro r w1 ⟨_, h1⟩; obtain ⟨rfl, hb1⟩ := h1 HOP.out; unfold layX)
    go_ret2
    exact ⟨rfl, hb1.alloc hb1.size _⟩
end Go.Proofs.YtmgcaiilocifbaaDoor
