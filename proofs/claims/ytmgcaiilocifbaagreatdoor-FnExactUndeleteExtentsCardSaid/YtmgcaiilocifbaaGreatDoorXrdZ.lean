/-
  Disks of extents: whether extents are complete: the program's side.
  Disks of extents: whether extents are complete: the program's side, whole.
  Disks of extents: the contents of complete extents: the program's side.
-/
import Derived.Test.YtmgcaiilocifbaaGreatDoorXrdP
import Derived.Deep.DeepCutAuto
import Derived.Test.YtmgcaiilocifbaaGreatDoorXrdW
namespace Go.Proofs.YtmgcaiilocifbaaGreatDoor
open Go Go.ChangeShapes Go.WideShapes Go.ChangeAt Go.RowKit lib
set_option linter.unusedVariables false
set_option linter.unusedSimpArgs false
set_option maxRecDepth 100000
theorem flat5x {α : Type} {f : α → List Value} (hf : ∀ x, (f x).length = 5) : ∀ (L : List α) (i j : Nat) (x : α), L[i]? = some x → j < 5 → (L.flatMap f)[i * 5 + j]? = (f x)[j]?
  | [], i, j, x, h, _ => by simp at h
  | y :: L, 0, j, x, h, hj => by
    simp only [List.getElem?_cons_zero, Option.some.injEq] at h
    subst h
    rw [List.flatMap_cons, Nat.zero_mul, Nat.zero_add, List.getElem?_append_left (by rw [hf]; exact hj)]
  | y :: L, i + 1, j, x, h, hj => by
    rw [List.getElem?_cons_succ] at h
    rw [List.flatMap_cons, List.getElem?_append_right (by rw [hf]; omega), hf, show (i + 1) * 5 + j - 5 = i * 5 + j by omega]
    exact flat5x hf L i j x h hj
abbrev XT := XE × Option Addr × Nat
/-- the cells of entry i of a row -/
theorem eRow_cell {B c : Nat} {w : World} {A : Option Addr} {T : List XT} (h : ERow B w A T.length c T) {i : Nat} {x : XT} (hx : T[i]? = some x) :
    ∃ g, A = some ⟨g, 0, none⟩ ∧ g < w.heap.size ∧ B ≤ g ∧ w.cell? ⟨g, i * 5, none⟩ = some (.int .i64 x.1.st) ∧ w.cell? ⟨g, i * 5 + 1, none⟩ = some (.string x.1.nm) ∧ w.cell? ⟨g, i * 5 + 2, none⟩ = some (.int .i64 x.1.no) ∧ w.cell? ⟨g, i * 5 + 3, none⟩ = some (.int .i64 x.1.tl) ∧ w.cell? ⟨g, i * 5 + 4, none⟩ = some (.slice x.2.1 x.1.bl.length x.2.2) := by
  have hi : i < T.length := (List.getElem?_eq_some_iff.1 hx).1
  unfold ERow at h
  obtain ⟨g, cap, hv, hlt, hg⟩ := h.form (by omega)
  injection hv with hA _ hC
  subst hA hC
  have hs := own_sl h
  have key : ∀ j, j < 5 → ∀ v, ((x.1.cells x.2.1 x.2.2)[j]? = some v) → w.cell? ⟨g, i * 5 + j, none⟩ = some v := by
    intro j hj v hv
    obtain ⟨b, o, e1, _, hc⟩ := hs (i * 5 + j) (by omega)
    simp only [Option.some.injEq, Addr.mk.injEq, and_true] at e1
    obtain ⟨rfl, rfl⟩ := e1
    rw [Nat.zero_add] at hc
    rw [hc]
    dsimp only
    rw [List.getD_eq_getElem?_getD, flat5x (f := fun p : XE × Option Addr × Nat => p.1.cells p.2.1 p.2.2) (fun _ => rfl) _ i j _ hx hj, hv]
    rfl
  have hgl : g < w.heap.size := by
    obtain ⟨b, o, e1, hb, _⟩ := hs (i * 5) (by omega)
    simp only [Option.some.injEq, Addr.mk.injEq, and_true] at e1
    omega
  exact ⟨g, rfl, hgl, own_lt h g rfl, key 0 (by omega) _ rfl, key 1 (by omega) _ rfl, key 2 (by omega) _ rfl, key 3 (by omega) _ rfl, key 4 (by omega) _ rfl⟩
theorem xts_getD {T : List XT} {i : Nat} {x : XT} (hx : T[i]? = some x) : (T.map (·.1)).getD i xe0 = x.1 := by
  rw [List.getD_eq_getElem?_getD, List.getElem?_map, hx]; rfl
theorem complete1_any {w : World} {p g n z E t N c q : Nat} {u : Nat → UInt8} (a : Int) (h : XW w p g n z E t N c u) (hn : n ≤ 1048576) (hq : w.cell? ⟨q, 0, none⟩ = some (.pointer (some ⟨p, 0, none⟩))) :
    Calls Tryz.prog 66 (#[.int .i64 a] ++ #[.pointer (some ⟨q, 0, none⟩)]) w fun r w' => r = .returned (.bool (!(decide ((t : Int) ≤ a) && decide (a ≤ (n : Int) - 1)))) ∧ w' = w.drew := by
  have HD := Lib.hid (implIsDataX_any a h hn)
  generalize (decide ((t : Int) ≤ a) && decide (a ≤ (n : Int) - 1)) = b at *
  go_enter Tryz.func66, Tryz.ntmps66
  go_wp2_with (go_at_call 67; refine HD.out.mono ?_; rintro e w' ⟨rfl, rfl⟩)
  go_ret
  exact ⟨rfl, rfl⟩
/-- blocks that are no data blocks -/
theorem indexOut_any {w : World} {p g n z E t N c q : Nat} {u : Nat → UInt8} (A : Option Addr) (ca m : Nat) (y : Nat → Int) (h : XW w p g n z E t N c u) (hn : n ≤ 1048576) (hq : w.cell? ⟨q, 0, none⟩ = some (.pointer (some ⟨p, 0, none⟩))) (hl : m ≤ 1048576) (hs : Sl w w.heap.size A m (fun i => .int .i64 (y i))) (b : Bool) (hb : b = true ↔ ∃ i, i < m ∧ ¬ inX n t (y i)) :
    Calls Tryz.prog 84 #[.slice A m ca, .func (.func 66) #[] #[.pointer (some ⟨q, 0, none⟩)]] w fun e w' => ∃ (i : Int) (k : Nat), e = .returned (.int .i64 i) ∧ (decide (0 ≤ i)) = b ∧ w' = w.drewN k := by
  have HX := Lib.hid h
  have HQ := Lib.hid hq
  have HS := Lib.hid hs
  have HB := Lib.hid hb
  clear hs hb h hq
  go_enter Tryz.func84, Tryz.ntmps84
  go_wp2_with fail
  go_loopw [5, 8] (fun s5 s8 wr => ∃ k q' : Nat, k ≤ m ∧ s8 = .int .i64 k ∧ (∀ j, j < k → inX n t (y j)) ∧ wr = w.drewN q') (fun _ i _ => m - (intOf i).toNat)
  case atStart => exact ⟨0, 0, Nat.zero_le _, rfl, fun j hj => absurd hj (by omega), rfl⟩
  case round =>
    obtain ⟨k, q', hk, rfl, hj, rfl⟩ := hrel
    have HJ := Lib.hid hj
    clear hj
    have hdr : (w.drewN q').drew = w.drewN (q' + 1) := rfl
    have HDR := Lib.hid hdr
    clear hdr
    by_cases hlt : k < m
    · obtain ⟨bk, o, rfl, hbk, hc⟩ := HS.out k hlt
      dsimp only at hc
      have hc2 : (w.drewN q').cell? ⟨bk, o + k, none⟩ = some (.int .i64 (y k)) := hc
      have HV := Lib.hid (complete1_any (y k) (HX.out.drewN q') hn (show (w.drewN q').cell? ⟨q, 0, none⟩ = _ from HQ.out))
      obtain ⟨x, hx⟩ : ∃ x, y k = x := ⟨_, rfl⟩
      rw [hx] at hc2 HV
      have HXX := Lib.hid hx
      clear hx hc
      generalize w.drewN q' = wq at *
      by_cases hx : (t : Int) ≤ x ∧ x ≤ (n : Int) - 1
      · rw [show (!(decide ((t : Int) ≤ x) && decide (x ≤ (n : Int) - 1))) = false by simp; exact hx] at HV
        have HI := Lib.hid hx
        clear hx
        go_wp2_with (go_at_call 66; refine HV.out.mono ?_; rintro e w' ⟨rfl, rfl⟩)
        go_roundw
        case rel => exact ⟨k + 1, q' + 1, by omega, by go_num, fun j hj => by
          rcases Nat.lt_succ_iff_lt_or_eq.1 hj with h | rfl
          · exact HJ.out j h
          · rw [HXX.out]; exact HI.out, HDR.out⟩
        case measure => simp [intOf]; omega
      · rw [show (!(decide ((t : Int) ≤ x) && decide (x ≤ (n : Int) - 1))) = true by simp; omega] at HV
        have hbt : b = true := HB.out.2 ⟨k, hlt, by rw [HXX.out]; exact hx⟩
        subst hbt
        clear hx
        go_wp2_with (go_at_call 66; refine HV.out.mono ?_; rintro e w' ⟨rfl, rfl⟩)
        go_ret
        exact ⟨_, q' + 1, rfl, by simp, HDR.out⟩
    · obtain rfl : k = m := by omega
      have hbf : b = false := by
        cases hbb : b with
        | false => rfl
        | true =>
          obtain ⟨i, hi, hn⟩ := HB.out.1 hbb
          exact absurd (HJ.out i hi) hn
      subst hbf
      go_wp2
      go_ret
      exact ⟨_, q', rfl, by simp, rfl⟩
theorem containsOut_any {w : World} {p g n z E t N c q : Nat} {u : Nat → UInt8} (A : Option Addr) (ca m : Nat) (y : Nat → Int) (h : XW w p g n z E t N c u) (hn : n ≤ 1048576) (hq : w.cell? ⟨q, 0, none⟩ = some (.pointer (some ⟨p, 0, none⟩))) (hl : m ≤ 1048576) (hs : Sl w w.heap.size A m (fun i => .int .i64 (y i))) (b : Bool) (hb : b = true ↔ ∃ i, i < m ∧ ¬ inX n t (y i)) :
    Calls Tryz.prog 65 #[.slice A m ca, .func (.func 66) #[] #[.pointer (some ⟨q, 0, none⟩)]] w fun e w' => ∃ k : Nat, e = .returned (.bool b) ∧ w' = w.drewN k := by
  have HI := Lib.hid (indexOut_any A ca m y h hn hq hl hs b hb)
  clear hs hb h hq
  go_enter Tryz.func65, Tryz.ntmps65
  go_wp2_with (go_at_call 84; refine HI.out.mono ?_; rintro e w' ⟨i, k, rfl, hi, rfl⟩)
  go_ret
  subst hi
  exact ⟨k, rfl, rfl⟩
end Go.Proofs.YtmgcaiilocifbaaGreatDoor
namespace Go.Proofs.YtmgcaiilocifbaaGreatDoor
open Go Go.ChangeShapes Go.WideShapes Go.ChangeAt Go.RowKit lib
set_option linter.unusedVariables false
set_option linter.unusedSimpArgs false
set_option maxRecDepth 100000
/-- the extents below i are as they must be -/
def preX (n t z m : Nat) (M : List XE) (i : Nat) : Prop := ∀ j, j < i → (M.getD j xe0).no = (j : Int) ∧ (∀ b, b ∈ (M.getD j xe0).bl → inX n t b) ∧ (j + 1 < m → (M.getD j xe0).bl.length = 4 ∧ (M.getD j xe0).tl = (z : Int))
theorem preX_more {n t z m : Nat} {M : List XE} {i : Nat} {e : XE} (h : preX n t z m M i) (he : M.getD i xe0 = e) (h1 : e.no = (i : Int)) (h2 : ∀ b, b ∈ e.bl → inX n t b) (h3 : i + 1 < m → e.bl.length = 4 ∧ e.tl = (z : Int)) : preX n t z m M (i + 1) := fun j hj => by
  rcases Nat.lt_succ_iff_lt_or_eq.1 hj with h4 | rfl
  · exact h j h4
  · rw [he]; exact ⟨h1, h2, h3⟩
theorem okX_end {n t z mp : Nat} {M : List XE} {e : XE} (hM : M.length = mp + 1) (h : preX n t z (mp + 1) M (mp + 1)) (he : M.getD mp xe0 = e) : okX n t z M ↔ ((e.bl.length = 0 → mp = 0 ∧ e.tl = 0) ∧ (0 < e.bl.length → 0 < e.tl)) := by
  obtain ⟨q1, q2, _⟩ := h mp (by omega)
  rw [he] at q1 q2
  constructor
  · intro ho
    obtain ⟨_, _, _, h3⟩ := ho mp (by omega)
    rw [he] at h3
    obtain ⟨h4, h5⟩ := h3 (by omega)
    exact ⟨fun h0 => by have := h4 h0; omega, h5⟩
  · intro hl i hi
    obtain ⟨p1, p2, p3⟩ := h i (by omega)
    refine ⟨p1, p2, fun hn => p3 (by omega), fun hl2 => ?_⟩
    obtain rfl : i = mp := by omega
    rw [he]
    exact ⟨fun h0 => by have := hl.1 h0; omega, hl.2⟩
theorem okX_not1 {n t z i : Nat} {M : List XE} {e : XE} (hi : i < M.length) (he : M.getD i xe0 = e) (h : ¬ (e.no = (i : Int) ∧ (∀ b, b ∈ e.bl → inX n t b) ∧ (i + 1 < M.length → e.bl.length = 4 ∧ e.tl = (z : Int)))) : ¬ okX n t z M := fun ho => by
  obtain ⟨h1, h2, h3, _⟩ := ho i hi
  rw [he] at h1 h2 h3
  exact h ⟨h1, h2, fun hl => h3 (by omega)⟩
theorem bl_out {n t : Nat} {l : List Int} : (∃ i, i < l.length ∧ ¬ inX n t (l.getD i 0)) ↔ ¬ ∀ b, b ∈ l → inX n t b := by
  constructor
  · rintro ⟨i, hi, hn⟩ h
    refine hn (h _ ?_)
    rw [List.getD_eq_getElem?_getD, List.getElem?_eq_getElem hi]
    exact List.getElem_mem hi
  · intro h
    refine Classical.byContradiction fun hc => h fun b hb => ?_
    obtain ⟨i, hi, rfl⟩ := List.mem_iff_getElem.1 hb
    refine Classical.byContradiction fun hn => hc ⟨i, hi, ?_⟩
    rw [List.getD_eq_getElem?_getD, List.getElem?_eq_getElem hi]
    exact hn
set_option maxHeartbeats 8000000 in
theorem implComplete_any {w : World} {p g n z E t N c ca B : Nat} {u : Nat → UInt8} {A : Option Addr} {T : List XT} (h : XW w p g n z E t N c u) (hn : n ≤ 1048576) (hz : z ≤ 1048576) (her : ERow B w A T.length ca T) (hes : ESl w.heap.size w T) (h0 : 0 < T.length) (hT : T.length ≤ 1048576) (hbl : ∀ x, x ∈ T → x.1.bl.length ≤ 4) (b : Bool) (hb : b = true ↔ okX n t z (T.map (·.1))) :
    Calls Tryz.prog 47 #[.pointer (some ⟨p, 0, none⟩), .slice A T.length ca] w fun r w' => r = .returned (.bool b) ∧ Below w.heap.size w w' := by
  obtain ⟨mp, hmp⟩ : ∃ mp, T.length = mp + 1 := ⟨T.length - 1, by omega⟩
  have hM : (T.map (·.1)).length = mp + 1 := by rw [List.length_map]; exact hmp
  have hr := Rw.new w 43 #[.pointer (some ⟨p, 0, none⟩)]
  have hal := (Below.refl w.heap.size w).alloc (Nat.le_refl _) (.cells #[.pointer (some ⟨p, 0, none⟩)] 43)
  have HR := Lib.hid hr
  have HX := Lib.hid (h.below hal)
  have HER := Lib.hid (her.below hal)
  have HES := Lib.hid (hes.below hal)
  have HAL := Lib.hid hal
  have HB := Lib.hid hb
  have HM := Lib.hid hM
  have HBL := Lib.hid hbl
  have HT := Lib.hid hmp
  have hs0 := World.size_alloc w (.cells #[.pointer (some ⟨p, 0, none⟩)] 43)
  have HS0 := Lib.hid hs0
  rw [hmp]
  clear h her hes hb hM hbl hal hr hs0
  have hmb : mp + 1 ≤ 1048576 := by omega
  clear hT h0 hmp
  go_enter Tryz.func47, Tryz.ntmps47
  go_upto_region 1 with fail
  obtain ⟨q0, hq0⟩ : ∃ q0, w.heap.size = q0 := ⟨_, rfl⟩
  generalize hW0 : w.alloc (.cells #[.pointer (some ⟨p, 0, none⟩)] 43) = W0 at *
  clear hW0
  rw [hq0] at HR HAL HS0 HES ⊢
  have HQ0 := Lib.hid hq0
  clear hq0
  go_wp2_with fail
  go_loopw [6, 7, 13] (fun s6 s7 s13 wr => ∃ i : Nat, i ≤ mp + 1 ∧ s13 = .int .i64 i ∧ preX n t z (mp + 1) (T.map (·.1)) i ∧ Below W0.heap.size W0 wr) (fun _ _ i _ => mp + 1 - (intOf i).toNat)
  case atStart => exact ⟨0, Nat.zero_le _, rfl, fun j hj => absurd hj (by omega), Below.refl _ _⟩
  case round =>
    obtain ⟨i, hi, rfl, hpre, hbr⟩ := hrel
    have hwr := hbr.size
    have HPRE := Lib.hid hpre
    have HBR := Lib.hid hbr
    have hfinB : ∀ w', Below wr.heap.size wr w' → Below w.heap.size w w' := fun w' hw' => by
      rw [HQ0.out]
      exact HAL.out.trans ((HBR.out.trans (hw'.mono hwr)).mono (by have := HS0.out; omega))
    have HFB := Lib.hid hfinB
    clear hpre hbr hfinB
    by_cases hlt : i < mp + 1
    · obtain ⟨x, hx⟩ : ∃ x, T[i]? = some x := ⟨_, List.getElem?_eq_getElem (by rw [HT.out]; exact hlt)⟩
      have her' : ERow B wr A T.length ca T := HER.out.below HBR.out
      obtain ⟨gr, rfl, hgr, hBg, k0, k1, k2, k3, k4⟩ := eRow_cell her' hx
      have hxm : x ∈ T := List.mem_of_getElem? hx
      have hsx := ((HES.out x hxm).more (show q0 ≤ W0.heap.size by have := HS0.out; omega)).below HBR.out
      have hb4 := HBL.out x hxm
      have hgD := xts_getD hx
      obtain ⟨e, ae, ce⟩ := x
      simp only at k0 k1 k2 k3 k4 hsx hb4 hgD
      have HGD := Lib.hid hgD
      clear hx her' hxm hgD
      obtain ⟨m, hm⟩ : ∃ m, e.bl.length = m := ⟨_, rfl⟩
      rw [hm] at k4 hsx hb4
      have HM4 := Lib.hid hm
      clear hm
      have hbx := (Below.refl wr.heap.size wr).alloc (Nat.le_refl _) (.cells #[.int .i64 e.st, .string e.nm, .int .i64 e.no, .int .i64 e.tl, .slice ae m ce] 38)
      have hrx := Rw.new wr 38 #[.int .i64 e.st, .string e.nm, .int .i64 e.no, .int .i64 e.tl, .slice ae m ce]
      go_upto_region 5 with fail
      generalize wr.alloc (.cells #[.int .i64 e.st, .string e.nm, .int .i64 e.no, .int .i64 e.tl, .slice ae m ce] 38) = W5 at *
      obtain ⟨qx, hqx⟩ : ∃ qx, wr.heap.size = qx := ⟨_, rfl⟩
      rw [hqx] at hrx ⊢
      clear hqx k0 k1 k2 k3 k4
      have c2 := hrx.cell 2
      have c3 := hrx.cell 3
      have c4 := hrx.cell 4
      have HB5 := Lib.hid hbx
      have hX5 := HX.out.below (HBR.out.trans (hbx.mono hwr))
      have hR5 := HR.out.below (HBR.out.trans (hbx.mono hwr)) (by have := HS0.out; omega)
      have hS5 := (hsx.below (hbx.mono hwr)).more (show W0.heap.size ≤ W5.heap.size from Nat.le_trans hwr hbx.size)
      have HX5 := Lib.hid hX5
      have HRX := Lib.hid hrx
      have HCO := Lib.hid (fun bb hbb => containsOut_any ae ce m (fun i => e.bl.getD i 0) hX5 hn (hR5.cell 0) (by omega) hS5 bb hbb)
      have x1 := hX5.c1
      clear hbx hrx hX5 hR5 hS5 hsx
      by_cases hno : e.no = (i : Int)
      · have e1 : (e.no != (i : Int)) = false := by simp [hno]
        have e1' : (e.no = (i : Int)) = True := by simp [hno]
        have HNO := Lib.hid hno
        clear hno
        by_cases hin : ∀ b, b ∈ e.bl → inX n t b
        · have hc := HCO.out false (by rw [← HM4.out]; simp only [Bool.false_eq_true, false_iff]; exact fun q => (bl_out.1 q) hin)
          have HC := Lib.hid hc
          have HIN := Lib.hid hin
          clear hc hin HCO
          go_upto_region 7 with (go_at_call 65; refine HC.out.mono ?_; rintro r w6 ⟨k6, rfl, rfl⟩)
          have c2' : (W5.drewN k6).cell? ⟨qx, 2, none⟩ = _ := c2
          have c3' : (W5.drewN k6).cell? ⟨qx, 3, none⟩ = _ := c3
          have c4' : (W5.drewN k6).cell? ⟨qx, 4, none⟩ = _ := c4
          have hrp' : (W5.drewN k6).cell? ⟨q0, 0, none⟩ = some (.pointer (some ⟨p, 0, none⟩)) := by
            have := HR.out.below (HBR.out.trans (HB5.out.mono hwr)) (by have := HS0.out; omega)
            exact this.cell 0
          have x1' : (W5.drewN k6).cell? ⟨p, 1, none⟩ = _ := x1
          have hB6 : Below wr.heap.size wr (W5.drewN k6) := HB5.out.drewN k6
          have HB6 := Lib.hid hB6
          clear c2 c3 c4 x1 hB6
          generalize W5.drewN k6 = W6 at *
          by_cases hil : i < mp
          · have d1 : (i : Int) < (mp : Int) := by omega
            have d1' : i < mp := hil
            by_cases h4 : m = 4
            · subst h4
              by_cases htl : e.tl = (z : Int)
              · have e2 : (e.tl != (z : Int)) = false := by simp [htl]
                have e2' : (e.tl = (z : Int)) = True := by simp [htl]
                have HTL := Lib.hid htl
                clear htl
                go_quiet ((fail))
                rename_i nq
                go_wp2_with fail
                go_roundw
                case rel => exact ⟨i + 1, by omega, by go_num, preX_more HPRE.out HGD.out HNO.out HIN.out (fun _ => ⟨HM4.out, HTL.out⟩), HBR.out.trans ((HB6.out.drewN nq).mono hwr)⟩
                case measure => simp [intOf]; omega
              · have e2 : (e.tl != (z : Int)) = true := by simp [htl]
                have e2' : (e.tl = (z : Int)) = False := by simp [htl]
                have hbf : b = false := by
                  rw [Bool.eq_false_iff]
                  exact fun q => okX_not1 (by rw [HM.out]; exact hlt) HGD.out (fun q2 => htl (q2.2.2 (by rw [HM.out]; omega)).2) (HB.out.1 q)
                subst hbf
                clear htl
                go_quiet ((fail))
                rename_i nq
                go_wp2_with fail
                go_ret
                exact ⟨rfl, HFB.out _ (HB6.out.drewN nq)⟩
            · have e3 : ((m : Int) != 4) = true := by simp; omega
              have e3' : ((m : Int) = 4) = False := by simp; omega
              have hbf : b = false := by
                rw [Bool.eq_false_iff]
                exact fun q => okX_not1 (by rw [HM.out]; exact hlt) HGD.out (fun q2 => h4 (by rw [← HM4.out]; exact (q2.2.2 (by rw [HM.out]; omega)).1)) (HB.out.1 q)
              subst hbf
              go_quiet ((fail))
              rename_i nq
              go_wp2_with fail
              go_ret
              exact ⟨rfl, HFB.out _ (HB6.out.drewN nq)⟩
          · have d1 : ¬ (i : Int) < (mp : Int) := by omega
            have d1' : decide (i < mp) = false := by simp; omega
            go_quiet ((fail))
            rename_i nq
            go_wp2_with fail
            go_roundw
            case rel => exact ⟨i + 1, by omega, by go_num, preX_more HPRE.out HGD.out HNO.out HIN.out (fun q => by omega), HBR.out.trans ((HB6.out.drewN nq).mono hwr)⟩
            case measure => simp [intOf]; omega
        · have hc := HCO.out true (by rw [← HM4.out]; simp only [true_iff]; exact bl_out.2 hin)
          have HC := Lib.hid hc
          have hbf : b = false := by
            rw [Bool.eq_false_iff]
            exact fun q => okX_not1 (z := z) (by rw [HM.out]; exact hlt) HGD.out (fun q2 => hin q2.2.1) (HB.out.1 q)
          subst hbf
          clear hc hin HCO
          go_wp2_with (go_at_call 65; refine HC.out.mono ?_; rintro r w6 ⟨k6, rfl, rfl⟩)
          go_ret
          exact ⟨rfl, HFB.out _ (HB5.out.drewN k6)⟩
      · have e1 : (e.no != (i : Int)) = true := by simp [hno]
        have e1' : (e.no = (i : Int)) = False := by simp [hno]
        have hbf : b = false := by
          rw [Bool.eq_false_iff]
          exact fun q => okX_not1 (n := n) (t := t) (z := z) (by rw [HM.out]; exact hlt) HGD.out (fun q2 => hno q2.1) (HB.out.1 q)
        subst hbf
        clear hno HCO
        go_wp2_with fail
        go_ret
        exact ⟨rfl, HFB.out _ HB5.out⟩
    · obtain rfl : i = mp + 1 := by omega
      obtain ⟨x, hx⟩ : ∃ x, T[mp]? = some x := ⟨_, List.getElem?_eq_getElem (by rw [HT.out]; omega)⟩
      have her' : ERow B wr A T.length ca T := HER.out.below HBR.out
      obtain ⟨gr, rfl, hgr, hBg, k0, k1, k2, k3, k4⟩ := eRow_cell her' hx
      have hend := okX_end HM.out HPRE.out (xts_getD hx)
      obtain ⟨e, ae, ce⟩ := x
      simp only at k0 k1 k2 k3 k4 hend
      obtain ⟨m, hm⟩ : ∃ m, e.bl.length = m := ⟨_, rfl⟩
      rw [hm] at k4 hend
      have HEND := Lib.hid (HB.out.trans hend)
      have HHX := Lib.hid hx
      clear hx her' hend hm
      have i1 : (mp : Int) < (mp : Int) + 1 := by omega
      by_cases hm0 : m = 0
      · subst hm0
        by_cases hmp0 : mp = 0
        · subst hmp0
          have k3' : wr.cell? ⟨gr, 3, none⟩ = some (.int .i64 e.tl) := by simpa using k3
          have k4' : wr.cell? ⟨gr, 4, none⟩ = some (.slice ae 0 ce) := by simpa using k4
          by_cases htl : e.tl = 0
          · have e2 : (e.tl == 0) = true := by simp [htl]
            have e2' : (e.tl = 0) = True := by simp [htl]
            have hbt : b = true := HEND.out.2 ⟨fun _ => ⟨rfl, htl⟩, fun q => by omega⟩
            subst hbt
            clear htl
            go_wp2_with fail
            go_ret
            exact ⟨rfl, HFB.out _ (Below.refl _ _)⟩
          · have e2 : (e.tl == 0) = false := by simp [htl]
            have e2' : (e.tl = 0) = False := by simp [htl]
            have hbf : b = false := by
              rw [Bool.eq_false_iff]
              exact fun q => htl ((HEND.out.1 q).1 rfl).2
            subst hbf
            clear htl
            go_wp2_with fail
            go_ret
            exact ⟨rfl, HFB.out _ (Below.refl _ _)⟩
        · have e3 : ((mp : Int) == 0) = false := by simp; omega
          have e3' : ((mp : Int) = 0) = False := by simp; omega
          have hbf : b = false := by
            rw [Bool.eq_false_iff]
            exact fun q => hmp0 ((HEND.out.1 q).1 rfl).1
          subst hbf
          go_wp2_with fail
          go_ret
          exact ⟨rfl, HFB.out _ (Below.refl _ _)⟩
      · have e4 : ((m : Int) == 0) = false := by simp; omega
        have e4' : ((m : Int) = 0) = False := by simp; omega
        have hbb : b = decide (1 ≤ e.tl) := by
          rw [Bool.eq_iff_iff, HEND.out, decide_eq_true_eq]
          exact ⟨fun q => by have := q.2 (by omega); omega, fun q => ⟨fun q2 => absurd q2 hm0, fun _ => by omega⟩⟩
        subst hbb
        go_wp2_with fail
        go_ret
        exact ⟨rfl, HFB.out _ (Below.refl _ _)⟩
end Go.Proofs.YtmgcaiilocifbaaGreatDoor
namespace Go.Proofs.YtmgcaiilocifbaaGreatDoor
open Go Go.ChangeShapes Go.WideShapes Go.ChangeAt Go.RowKit lib
set_option linter.unusedVariables false
set_option linter.unusedSimpArgs false
set_option maxRecDepth 100000
/-- what an extent's first k blocks give, cut at the last -/
def partB (U : Nat → UInt8) (z : Nat) (e : XE) (k : Nat) : List UInt8 := if k = e.bl.length then entB U z e else blksB U z (e.bl.take k)
theorem partB_zero (U : Nat → UInt8) (z : Nat) (e : XE) : partB U z e 0 = [] := by
  unfold partB
  split
  · rename_i h; rw [entB_none h.symm]
  · simp [blksB]
theorem partB_full (U : Nat → UInt8) (z : Nat) (e : XE) : partB U z e e.bl.length = entB U z e := if_pos rfl
theorem partB_more {U : Nat → UInt8} {z : Nat} {e : XE} {k bk : Nat} (hk : k < e.bl.length) (hb : e.bl.getD k 0 = (bk : Int)) (h : k + 1 = e.bl.length → e.bl.length = 4 ∧ e.tl = (z : Int)) :
    partB U z e (k + 1) = partB U z e k ++ (List.range z).map fun j => U (bk * z + j) := by
  have h1 : blksB U z (e.bl.take (k + 1)) = blksB U z (e.bl.take k) ++ (List.range z).map fun j => U (bk * z + j) := by
    rw [take_moreI hk, blksB_snoc, hb]; rfl
  unfold partB
  rw [if_neg (show ¬ k = e.bl.length by omega)]
  split
  · rename_i h2
    obtain ⟨h3, h4⟩ := h h2
    rw [entB_full h3 h4, ← h1, h2, List.take_length]
  · exact h1
theorem partB_last {U : Nat → UInt8} {z : Nat} {e : XE} {k bk tl : Nat} (hk : k + 1 = e.bl.length) (hb : e.bl.getD k 0 = (bk : Int)) (ht : e.tl = (tl : Int)) (htz : tl ≤ z) :
    partB U z e (k + 1) = partB U z e k ++ (List.range tl).map fun j => U (bk * z + j) := by
  have h1 : blksB U z (e.bl.take (k + 1)) = blksB U z (e.bl.take k) ++ (List.range z).map fun j => U (bk * z + j) := by
    rw [take_moreI (by omega), blksB_snoc, hb]; rfl
  rw [show e.bl.take (k + 1) = e.bl by rw [hk, List.take_length]] at h1
  unfold partB
  rw [if_neg (show ¬ k = e.bl.length by omega), if_pos hk, entB_some (by omega), h1, ht]
  have hl : (blksB U z (e.bl.take k)).length = k * z := by rw [blksB_len, List.length_take]; congr 1; omega
  rw [show (e.bl.length - 1) * z + ((tl : Int)).toNat = (blksB U z (e.bl.take k)).length + tl by rw [hl]; congr 1; congr 1; omega]
  rw [List.take_length_add_append]
  congr 1
  rw [← List.map_take, List.take_range, Nat.min_eq_left htz]
theorem partB_len {U : Nat → UInt8} {z : Nat} {e : XE} {k : Nat} (hk : k ≤ e.bl.length) : (partB U z e k).length ≤ k * z := by
  unfold partB
  split
  · rename_i h; rw [h]; exact entB_len U z e
  · rw [blksB_len, List.length_take]; exact Nat.mul_le_mul_right z (Nat.min_le_left _ _)
theorem byteCells_range (m : Nat) (u : Nat → UInt8) : Lib.byteCells ((List.range m).map u) = (List.range m).map fun i => Value.int .u8 ((u i).toNat : Int) := by
  unfold Lib.byteCells
  rw [List.map_map]
  rfl
theorem byteCells_length (l : List UInt8) : (Lib.byteCells l).length = l.length := by unfold Lib.byteCells; simp
theorem fileB_take {U : Nat → UInt8} {z i : Nat} {M : List XE} {e : XE} (hi : i < M.length) (he : M.getD i xe0 = e) : fileB U z (M.take (i + 1)) = fileB U z (M.take i) ++ entB U z e := by
  rw [← he, getD_at hi, List.take_add_one, List.getElem?_eq_getElem hi]
  exact fileB_snoc U z _ _
theorem builder_below {T e B b : Nat} {bs : List Value} {w w' : World} (h : Lib.IsBuilder T e B b bs w) (hb : Below w.heap.size w w') : Lib.IsBuilder T e B b bs w' := by
  rcases h with h | h
  · have hl := h.lt
    obtain ⟨h1, v, h2, h3, h4⟩ := h
    exact .inl ⟨h1, v, (hb.block b hl).trans h2, own_below h3 hb, h4⟩
  · have hl := h.lt
    obtain ⟨h1, v, h2, h3, h4⟩ := h
    exact .inr ⟨h1, v, (hb.block b hl).trans h2, own_below h3 hb, h4⟩
theorem builder_drewN {T e B b : Nat} {bs : List Value} {w : World} (h : Lib.IsBuilder T e B b bs w) (k : Nat) : Lib.IsBuilder T e B b bs (w.drewN k) := h
end Go.Proofs.YtmgcaiilocifbaaGreatDoor
