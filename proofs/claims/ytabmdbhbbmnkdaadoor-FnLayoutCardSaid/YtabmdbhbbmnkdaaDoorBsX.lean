/-
  Tracks: the reference's writer of a track: fillers and marks.
-/
import Derived.Test.YtabmdbhbbmnkdaaDoorBsW
namespace Go.Proofs.YtabmdbhbbmnkdaaDoor
open Go Go.ChangeShapes Go.WideShapes Go.ChangeAt Go.RowKit Go.Joins lib
set_option linter.unusedVariables false
set_option linter.unusedSimpArgs false
set_option maxRecDepth 100000
theorem bytesV_rep (g : Nat) (y : UInt8) : bytesV (List.replicate (g + 1) y) = bytesV (List.replicate g y) ++ [.int .u8 (y.toNat : Int)] := by
  unfold bytesV
  rw [List.replicate_succ', List.map_append]
  rfl
set_option maxHeartbeats 4000000 in
theorem rwFill_any {B b f : Nat} (hf : f123 f) {s : WS} (g : Nat) (hg1 : 1 ≤ g) (hg : g ≤ 20) (x : Int) (hx : x = g) {w : World} (h : RWS B b f s w) (hl : s.2.length ≤ 65536) (hBw : B ≤ w.heap.size) :
    Calls Tryd.prog 49 #[.pointer (some ⟨b, 0, none⟩), .int .i64 x] w fun e w' => e = .returned (.tuple #[]) ∧ RWS B b f (wBytes f s (List.replicate g (fillY f))) w' ∧ Below B w w' := by
  subst hx
  have hbl := h.lt
  obtain ⟨p, hp⟩ : ∃ p, f = p + 1 := ⟨f - 1, by unfold f123 at hf; omega⟩
  have hp3 : p < 3 := by unfold f123 at hf; omega
  have hfp : (f : Int) - 1 = (p : Int) := by omega
  have hpi : (p : Int) < 3 := by omega
  have hb1 : Below w.heap.size w (w.alloc (.cells #[.int .u8 255, .int .u8 78, .int .u8 85] 5)) := (Below.refl _ _).alloc (Nat.le_refl _) _
  have hc : (w.alloc (.cells #[.int .u8 255, .int .u8 78, .int .u8 85] 5)).cell? ⟨w.heap.size, p, none⟩ = some (.int .u8 ((fillY f).toNat : Int)) := by
    rw [World.cell?_alloc_new]
    subst hp
    have : p = 0 ∨ p = 1 ∨ p = 2 := by omega
    rcases this with rfl | rfl | rfl <;> rfl
  have k0 := (h.below hb1).cell0
  have HH := Lib.hid (h.below hb1)
  have H0 := Lib.hid h
  have HB1 := Lib.hid hb1
  have HTB := Lib.hid (fun (W : World) (hW : RWS B b f s W) (hBW : B ≤ W.heap.size) (t : ByteArray) (ht : t = strL (List.replicate g (fillY f))) => rwBytes_any hf t (by rw [ht, strL_size, List.length_replicate]; omega) (by rw [ht, strL_size, List.length_replicate]; omega) hW hl hBW)
  obtain ⟨Y, hY⟩ : ∃ Y, fillY f = Y := ⟨_, rfl⟩
  rw [hY] at hc HTB ⊢
  obtain ⟨W1, hW1⟩ : ∃ W1, w.alloc (.cells #[.int .u8 255, .int .u8 78, .int .u8 85] 5) = W1 := ⟨_, rfl⟩
  rw [hW1] at hc k0 HH HB1
  have hb1' := HB1.out
  have HO := Lib.hid (own_nilE W1 5 1 w.heap.size hb1'.size)
  clear h hb1 hb1' hY hp
  go_enter Tryd.func49, Tryd.ntmps49
  go_upto_region 2 with fail
  clear hfp hc hpi hW1
  have HB2 := Lib.hid ((HB1.out).alloc HB1.out.size (.cells #[] 5))
  generalize W1.alloc (.cells #[] 5) = W2 at *
  go_wp2_with fail
  go_loopw [5, 1] (fun s5 s1 wr => ∃ (i : Nat) (A : Option Addr) (c : Nat), i ≤ g ∧ s1 = .int .i64 ((g : Int) - (i : Int)) ∧ s5 = .slice A i c ∧ wr.ownsRow w.heap.size 5 1 (.slice A i c) i (bytesV (List.replicate i Y)) ∧ Below w.heap.size w wr) (fun _ i _ => (intOf i).toNat)
  case atStart => exact ⟨0, _, _, by omega, by simp, rfl, HO.out, HB2.out⟩
  case round =>
    obtain ⟨i, A, c, hi, rfl, rfl, ho, hb⟩ := hrel
    have HOI := Lib.hid ho
    have HBI := Lib.hid hb
    have HRI := Lib.hid (H0.out.below hb)
    have hzr : w.heap.size ≤ wr.heap.size := hb.size
    have HRP := Lib.hid (bytesV_rep i Y)
    obtain ⟨US, hUS⟩ : ∃ US, bytesV (List.replicate i Y) = US := ⟨_, rfl⟩
    rw [hUS] at HOI HRP
    clear ho hb
    by_cases hlt : i < g
    · obtain ⟨m, hm⟩ : ∃ m : Nat, g - i = m + 1 := ⟨g - i - 1, by omega⟩
      have hmi : (g : Int) - (i : Int) = ((m + 1 : Nat) : Int) := by omega
      rw [hmi]
      have hm0 : (0 : Int) < ((m + 1 : Nat) : Int) := by omega
      have hmb : m ≤ 20 := by omega
      clear hUS
      have HM := Lib.hid hm
      clear hm hmi
      go_wp2_with (at_builtin; refine wpList_push (.tmp 19) (.tmp 21) 22 w.heap.size 5 (.int .u8 0) (.int .u8 (Y.toNat : Int)) 1 _ i US HOI.out rfl rfl Tryd.underlying22 infoU8T rfl rfl rfl rfl rfl (by omega) (by omega) hzr ?_; intro A6 c6 w6 ho6 hb6)
      exact ⟨⟨i + 1, some A6, c6, by omega, congrArg (Value.int .i64) (by have := HM.out; omega), rfl, by rw [HRP.out]; exact ho6, HBI.out.trans hb6⟩, by simp [intOf] <;> omega⟩
    · obtain rfl : i = g := by omega
      have hcv := run_bytesV (W := wr) (B := w.heap.size) (k := i) (c := c) (A := A) (us := List.replicate i Y) (by simp) (by rw [hUS]; exact HOI.out)
      have hgz : (i : Int) - (i : Int) = 0 := by omega
      rw [hgz]
      clear hUS
      have HT := Lib.hid (HTB.out wr HRI.out (Nat.le_trans hBw hzr) ⟨(List.replicate i Y).toArray⟩ rfl)
      go_wp2_with (go_at_call 51; refine HT.out.mono ?_; rintro e w5 ⟨rfl, hr5, hb5⟩)
      go_end0
      exact ⟨rfl, hr5, (HBI.out.mono hBw).trans hb5⟩
theorem and_one : ∀ c : Fin 256, bits .and .i64 ((c.val : Nat) : Int) 1 = ((c.val % 2 : Nat) : Int) := by decide +kernel
set_option maxHeartbeats 8000000 in
theorem rwMark_any {B b f k : Nat} (hf : f123 f) (hk : f123 k) {s : WS} {w : World} (h : RWS B b f s w) (hl : s.2.length ≤ 65536) (hBw : B ≤ w.heap.size) (y : Int) (hy : y = k) :
    Calls Tryd.prog 50 #[.pointer (some ⟨b, 0, none⟩), .int .i64 y] w fun e w' => e = .returned (.tuple #[]) ∧ RWS B b f (wMark f k s) w' ∧ Below B w w' := by
  obtain ⟨i0, hi0, hi1, hi2, hi3⟩ := info_parts infoU8T
  have hb0 := h.lt
  have c0 := h.cell0
  have hmb := mByte_lt hf hk
  have HMC := Lib.hid (fun (x : Int) (hx : x = (f : Int)) (W : World) => specMark_any f k hf hk x y hx hy W)
  have HMZ := Lib.hid (show 0 < (strL (markL f k)).size ∧ (strL (markL f k)).size ≤ 64 by
    rw [strL_size]
    exact ⟨by rcases hf with rfl | rfl | rfl <;> rcases hk with rfl | rfl | rfl <;> decide, markL_len f k⟩)
  have hwm : wMark f k s = (mByte f k % 2 == 1, (wRun f s).2 ++ markL f k) := rfl
  have HRL := Lib.hid (Nat.le_trans (wRun_len f s) (Nat.add_le_add_right hl 48))
  have hand := and_one ⟨mByte f k, by omega⟩
  simp only at hand
  obtain ⟨R, hR⟩ : ∃ R, wRun f s = R := ⟨_, rfl⟩
  have HRF := Lib.hid hR
  obtain ⟨MS, hMS⟩ : ∃ MS, strL (markL f k) = MS := ⟨_, rfl⟩
  have HMD := Lib.hid (show markL f k = MS.data.toList by rw [← hMS, strL_list])
  rw [hMS] at HMC HMZ
  have HMB := Lib.hid (fun (x : Int) (hx : x = (f : Int)) (W : World) => specByte_any f k hf hk x y hx hy W)
  obtain ⟨M, hM⟩ : ∃ M, mByte f k = M := ⟨_, rfl⟩
  rw [hM] at HMB hmb hand hwm
  have hodd : (((M % 2 : Nat) : Int) == 1) = (M % 2 == 1) := by
    rcases Nat.mod_two_eq_zero_or_one M with h2 | h2 <;> rw [h2] <;> rfl
  obtain ⟨ODD, hODD⟩ : ∃ ODD, (M % 2 == 1) = ODD := ⟨_, rfl⟩
  rw [hODD] at hodd hwm
  obtain ⟨q, hq⟩ : ∃ q, M % 2 = q := ⟨_, rfl⟩
  rw [hq] at hand hodd
  rw [hR] at hwm
  have HWM := Lib.hid hwm
  have HH := Lib.hid h
  have hsl : s.2.length ≤ 65536 := hl
  clear h hl hy hwm hR hMS hM hODD hq
  rcases hf with rfl | rfl | rfl
  · have HTB := Lib.hid (rwBytes_any (f := 1) (.inl rfl) ⟨#[0, 0]⟩ (show 2 ≤ 64 by omega) (show 2 ≠ 0 by omega) HH.out hsl hBw)
    go_enter Tryd.func50, Tryd.ntmps50
    go_wp2_with (go_at_call 51; refine HTB.out.mono ?_; rintro e w1 ⟨rfl, hr1, hb1⟩)
    rw [show wBytes 1 s (⟨#[0, 0]⟩ : ByteArray).data.toList = R from HRF.out] at hr1
    clear c0
    have HR1 := Lib.hid hr1
    obtain ⟨last2, l2⟩ := R
    obtain ⟨hBb, A, c, hbk, hown, hne⟩ := hr1
    simp only at hbk hown hne
    have hl2 : l2.length ≤ 70000 := by
      have h1 := HRL.out
      rw [HRF.out] at h1
      have h2 : ((last2, l2) : WS).2.length = l2.length := rfl
      omega
    obtain ⟨L, hL⟩ : ∃ L, l2.length = L := ⟨_, rfl⟩
    have HLL := Lib.hid hL
    rw [hL] at hbk hown hne hl2
    have c0 : w1.drew.cell? ⟨b, 0, none⟩ = some (.int .i64 1) := by
      have : w1.drew.heap[b]? = _ := hbk
      rw [Lib.cell_of_heap this]; rfl
    have c1 : w1.drew.cell? ⟨b, 1, none⟩ = some (.slice A L c) := by
      have : w1.drew.heap[b]? = _ := hbk
      rw [Lib.cell_of_heap this]; rfl
    have hlt1 : b < w1.heap.size := (Array.getElem?_eq_some_iff.1 hbk).1
    have HBK := Lib.hid hbk
    have HO := Lib.hid hown
    have HNE := Lib.hid hne
    have HB1 := Lib.hid hb1
    have hz1 : B ≤ w1.heap.size := Nat.le_trans hBw hb1.size
    obtain ⟨n1, hn1⟩ : ∃ n1, L + MS.size = n1 := ⟨_, rfl⟩
    have HN1 := Lib.hid hn1
    have hn1b : n1 ≤ 80000 := by have := HMZ.out; omega
    clear hbk hown hne hL hb1 hn1
    go_region_law ((first
      | (go_simp; go_at_call 66; refine (HMC.out 1 rfl _).mono ?_; rintro e w2 ⟨rfl, hb2⟩; have HB2 := Lib.hid (show Below w1.heap.size w1 w2 from (Below.refl _ _).drew.trans hb2); have d1 : w2.cell? ⟨b, 1, none⟩ = some (.slice A L c) := (hb2.cell (p := ⟨b, 1, none⟩) hlt1).trans c1; clear hb2)
      | (refine step_strW rfl (.tmp 28) (.tmp 34) 22 9 rfl B 5 i0 Tryd.underlying22 Tryd.underlying9 hi0 hi1 hi2 hi3 (.slice A L c) L l2 (by rfl) (own_below HO.out HB2.out) MS (by rfl) n1 HN1.out (by omega) (Nat.le_trans hz1 HB2.out.size) (by have := HMZ.out; omega) ?_; intro gg cap w3 ho3 hg3; have HO3 := Lib.hid ho3; have HG3 := Lib.hid hg3; have hb3 : w3.heap[b]? = some (.cells #[.int .i64 1, .slice A L c, .bool last2] 88 (0, 0)) := (hg3.block b (Nat.lt_of_lt_of_le hlt1 HB2.out.size) (fun e => HNE.out e.symm)).trans ((HB2.out.block b hlt1).trans HBK.out); have q1 : w3.cell? ⟨b, 1, none⟩ = some (.slice A L c) := (by rw [Lib.cell_of_heap hb3]; rfl); have f1 : w3.frozen? ⟨b, 1, none⟩ = false := Lib.frozen_of_heap hb3 1; clear ho3 hg3 hb3)))
    all_goals
      have HR4 := Lib.hid (RWS.put (f := 1) (last := last2) (l := l2) (l' := l2 ++ MS.data.toList) hBb (w := w2) (A := A) (c := c) (w3 := w3) (g := gg) (cap := cap) (n' := n1) (by rw [HLL.out]; exact (HB2.out.block b hlt1).trans HBK.out) (by rw [HLL.out]; exact HNE.out) HO3.out (by rw [HLL.out]; exact HG3.out) (by rw [List.length_append, HLL.out]; exact HN1.out))
      have HB4 := Lib.hid (show Below B w (w3.setCell ⟨b, 1, none⟩ (.slice (some ⟨gg, 0, none⟩) n1 cap)) from (((HB1.out).trans (HB2.out.mono hz1)).trans (below_grown HG3.out (own_lt (own_below HO.out HB2.out)) (Nat.le_trans hz1 HB2.out.size))).setCell (p := ⟨b, 1, none⟩) hBb _)
      generalize w3.setCell ⟨b, 1, none⟩ (.slice (some ⟨gg, 0, none⟩) n1 cap) = W4 at *
      have k0 := HR4.out.cell0
      clear c0 c1 d1 q1 f1
      go_upto_region 7 with fail
      have hz4 := HR4.out.lt
      go_wp2_with (go_at_call 83; refine (HMB.out 1 rfl _).mono ?_; rintro e w5 ⟨rfl, hb5⟩; have HB5 := Lib.hid hb5; have hr5 := HR4.out.below hb5; have m2 := hr5.cell2; have mf := hr5.frozen 2; have HR5 := Lib.hid hr5; clear hr5 hb5)
      go_end0
      have hr6 := HR5.out.setLast ODD
      rw [HWM.out, HMD.out]
      exact ⟨rfl, hr6, (HB4.out.trans (HB5.out.mono (Nat.le_trans hBw HB4.out.size))).setCell (p := ⟨b, 2, none⟩) hBb _⟩
  · have HTB := Lib.hid (rwBytes_any (f := 2) (.inr (.inl rfl)) ⟨#[0, 0, 0]⟩ (show 3 ≤ 64 by omega) (show 3 ≠ 0 by omega) HH.out hsl hBw)
    go_enter Tryd.func50, Tryd.ntmps50
    go_wp2_with (go_at_call 51; refine HTB.out.mono ?_; rintro e w1 ⟨rfl, hr1, hb1⟩)
    rw [show wBytes 2 s (⟨#[0, 0, 0]⟩ : ByteArray).data.toList = R from HRF.out] at hr1
    clear c0
    have HR1 := Lib.hid hr1
    obtain ⟨last2, l2⟩ := R
    obtain ⟨hBb, A, c, hbk, hown, hne⟩ := hr1
    simp only at hbk hown hne
    have hl2 : l2.length ≤ 70000 := by
      have h1 := HRL.out
      rw [HRF.out] at h1
      have h2 : ((last2, l2) : WS).2.length = l2.length := rfl
      omega
    obtain ⟨L, hL⟩ : ∃ L, l2.length = L := ⟨_, rfl⟩
    have HLL := Lib.hid hL
    rw [hL] at hbk hown hne hl2
    have c0 : w1.drew.cell? ⟨b, 0, none⟩ = some (.int .i64 2) := by
      have : w1.drew.heap[b]? = _ := hbk
      rw [Lib.cell_of_heap this]; rfl
    have c1 : w1.drew.cell? ⟨b, 1, none⟩ = some (.slice A L c) := by
      have : w1.drew.heap[b]? = _ := hbk
      rw [Lib.cell_of_heap this]; rfl
    have hlt1 : b < w1.heap.size := (Array.getElem?_eq_some_iff.1 hbk).1
    have HBK := Lib.hid hbk
    have HO := Lib.hid hown
    have HNE := Lib.hid hne
    have HB1 := Lib.hid hb1
    have hz1 : B ≤ w1.heap.size := Nat.le_trans hBw hb1.size
    obtain ⟨n1, hn1⟩ : ∃ n1, L + MS.size = n1 := ⟨_, rfl⟩
    have HN1 := Lib.hid hn1
    have hn1b : n1 ≤ 80000 := by have := HMZ.out; omega
    clear hbk hown hne hL hb1 hn1
    go_region_law ((first
      | (go_simp; go_at_call 66; refine (HMC.out 2 rfl _).mono ?_; rintro e w2 ⟨rfl, hb2⟩; have HB2 := Lib.hid (show Below w1.heap.size w1 w2 from (Below.refl _ _).drew.trans hb2); have d1 : w2.cell? ⟨b, 1, none⟩ = some (.slice A L c) := (hb2.cell (p := ⟨b, 1, none⟩) hlt1).trans c1; clear hb2)
      | (refine step_strW rfl (.tmp 28) (.tmp 34) 22 9 rfl B 5 i0 Tryd.underlying22 Tryd.underlying9 hi0 hi1 hi2 hi3 (.slice A L c) L l2 (by rfl) (own_below HO.out HB2.out) MS (by rfl) n1 HN1.out (by omega) (Nat.le_trans hz1 HB2.out.size) (by have := HMZ.out; omega) ?_; intro gg cap w3 ho3 hg3; have HO3 := Lib.hid ho3; have HG3 := Lib.hid hg3; have hb3 : w3.heap[b]? = some (.cells #[.int .i64 2, .slice A L c, .bool last2] 88 (0, 0)) := (hg3.block b (Nat.lt_of_lt_of_le hlt1 HB2.out.size) (fun e => HNE.out e.symm)).trans ((HB2.out.block b hlt1).trans HBK.out); have q1 : w3.cell? ⟨b, 1, none⟩ = some (.slice A L c) := (by rw [Lib.cell_of_heap hb3]; rfl); have f1 : w3.frozen? ⟨b, 1, none⟩ = false := Lib.frozen_of_heap hb3 1; clear ho3 hg3 hb3)))
    all_goals
      have HR4 := Lib.hid (RWS.put (f := 2) (last := last2) (l := l2) (l' := l2 ++ MS.data.toList) hBb (w := w2) (A := A) (c := c) (w3 := w3) (g := gg) (cap := cap) (n' := n1) (by rw [HLL.out]; exact (HB2.out.block b hlt1).trans HBK.out) (by rw [HLL.out]; exact HNE.out) HO3.out (by rw [HLL.out]; exact HG3.out) (by rw [List.length_append, HLL.out]; exact HN1.out))
      have HB4 := Lib.hid (show Below B w (w3.setCell ⟨b, 1, none⟩ (.slice (some ⟨gg, 0, none⟩) n1 cap)) from (((HB1.out).trans (HB2.out.mono hz1)).trans (below_grown HG3.out (own_lt (own_below HO.out HB2.out)) (Nat.le_trans hz1 HB2.out.size))).setCell (p := ⟨b, 1, none⟩) hBb _)
      generalize w3.setCell ⟨b, 1, none⟩ (.slice (some ⟨gg, 0, none⟩) n1 cap) = W4 at *
      have k0 := HR4.out.cell0
      clear c0 c1 d1 q1 f1
      go_upto_region 7 with fail
      have hz4 := HR4.out.lt
      go_wp2_with (go_at_call 83; refine (HMB.out 2 rfl _).mono ?_; rintro e w5 ⟨rfl, hb5⟩; have HB5 := Lib.hid hb5; have hr5 := HR4.out.below hb5; have m2 := hr5.cell2; have mf := hr5.frozen 2; have HR5 := Lib.hid hr5; clear hr5 hb5)
      go_end0
      have hr6 := HR5.out.setLast ODD
      rw [HWM.out, HMD.out]
      exact ⟨rfl, hr6, (HB4.out.trans (HB5.out.mono (Nat.le_trans hBw HB4.out.size))).setCell (p := ⟨b, 2, none⟩) hBb _⟩
  · obtain ⟨last, l⟩ := s
    simp only at hsl
    obtain ⟨hBb0, A0, c0', hbk0, hown0, hne0⟩ := HH.out
    simp only at hbk0 hown0 hne0
    obtain ⟨L0, hL0⟩ : ∃ L0, l.length = L0 := ⟨_, rfl⟩
    have HL0 := Lib.hid hL0
    rw [hL0] at hbk0 hown0 hne0 hsl
    have k1 : w.cell? ⟨b, 1, none⟩ = some (.slice A0 L0 c0') := by rw [Lib.cell_of_heap hbk0]; rfl
    have HBK0 := Lib.hid hbk0
    have HO0 := Lib.hid hown0
    have HNE0 := Lib.hid hne0
    obtain ⟨m1, hm1⟩ : ∃ m1, L0 + 10 = m1 := ⟨_, rfl⟩
    have HM1 := Lib.hid hm1
    have hm1b : m1 ≤ 70000 := by omega
    clear hbk0 hown0 hne0 hL0 hm1
    go_enter Tryd.func50, Tryd.ntmps50
    go_wp2_with (at_builtin; refine wpList_pushS rfl (.tmp 12) _ rfl B (.slice A0 L0 c0') L0 l rfl HO0.out ⟨#[49, 49, 49, 49, 49, 49, 49, 49, 49, 49]⟩ rfl (by decide) m1 HM1.out (by omega) hBw ?_; intro A5 c5 w0 ho0 hg0 hb0'; have HO0' := Lib.hid ho0; have HG0 := Lib.hid hg0; have HB0 := Lib.hid hb0'; have hb3 : w0.heap[b]? = some (.cells #[.int .i64 3, .slice A0 L0 c0', .bool last] 88 (0, 0)) := (hg0.block b hb0 (fun e => HNE0.out e.symm)).trans HBK0.out; have q1 : w0.cell? ⟨b, 1, none⟩ = some (.slice A0 L0 c0') := (by rw [Lib.cell_of_heap hb3]; rfl); have f1 : w0.frozen? ⟨b, 1, none⟩ = false := Lib.frozen_of_heap hb3 1; clear ho0 hg0 hb3 hb0')
    obtain ⟨g5, rfl⟩ : ∃ g5, A5 = ⟨g5, 0, none⟩ := by
      obtain ⟨g, cap, hv, _, _⟩ := HO0'.out.form (by have := HM1.out; omega)
      injection hv with h1 h2 h3
      injection h1 with h1
      exact ⟨g, h1⟩
    have hr1 := RWS.put (f := 3) (last := last) (l := l) (l' := l ++ [49, 49, 49, 49, 49, 49, 49, 49, 49, 49]) hBb0 (w := w) (A := A0) (c := c0') (w3 := w0) (g := g5) (cap := c5) (n' := m1) (by rw [HL0.out]; exact HBK0.out) (by rw [HL0.out]; exact HNE0.out) HO0'.out (by rw [HL0.out]; exact HG0.out) (by rw [List.length_append, HL0.out]; exact HM1.out)
    have hb1 : Below B w (w0.setCell ⟨b, 1, none⟩ (.slice (some ⟨g5, 0, none⟩) m1 c5)) := HB0.out.setCell (p := ⟨b, 1, none⟩) hBb0 _
    have hr2 : R = (last, l ++ ten1) := HRF.out.symm
    rw [show (last, l ++ [49, 49, 49, 49, 49, 49, 49, 49, 49, 49]) = R from hr2.symm] at hr1
    clear q1 f1 k1 c0 hr2
    generalize w0.setCell ⟨b, 1, none⟩ (.slice (some ⟨g5, 0, none⟩) m1 c5) = w1 at *
    have HR1 := Lib.hid hr1
    obtain ⟨last2, l2⟩ := R
    obtain ⟨hBb, A, c, hbk, hown, hne⟩ := hr1
    simp only at hbk hown hne
    have hl2 : l2.length ≤ 70000 := by
      have h1 := HRL.out
      rw [HRF.out] at h1
      have h2 : ((last2, l2) : WS).2.length = l2.length := rfl
      omega
    obtain ⟨L, hL⟩ : ∃ L, l2.length = L := ⟨_, rfl⟩
    have HLL := Lib.hid hL
    rw [hL] at hbk hown hne hl2
    have c0 : w1.drew.cell? ⟨b, 0, none⟩ = some (.int .i64 3) := by
      have : w1.drew.heap[b]? = _ := hbk
      rw [Lib.cell_of_heap this]; rfl
    have c1 : w1.drew.cell? ⟨b, 1, none⟩ = some (.slice A L c) := by
      have : w1.drew.heap[b]? = _ := hbk
      rw [Lib.cell_of_heap this]; rfl
    have hlt1 : b < w1.heap.size := (Array.getElem?_eq_some_iff.1 hbk).1
    have HBK := Lib.hid hbk
    have HO := Lib.hid hown
    have HNE := Lib.hid hne
    have HB1 := Lib.hid hb1
    have hz1 : B ≤ w1.heap.size := Nat.le_trans hBw hb1.size
    obtain ⟨n1, hn1⟩ : ∃ n1, L + MS.size = n1 := ⟨_, rfl⟩
    have HN1 := Lib.hid hn1
    have hn1b : n1 ≤ 80000 := by have := HMZ.out; omega
    clear hbk hown hne hL hb1 hn1
    go_region_law ((first
      | (go_simp; go_at_call 66; refine (HMC.out 3 rfl _).mono ?_; rintro e w2 ⟨rfl, hb2⟩; have HB2 := Lib.hid (show Below w1.heap.size w1 w2 from (Below.refl _ _).drew.trans hb2); have d1 : w2.cell? ⟨b, 1, none⟩ = some (.slice A L c) := (hb2.cell (p := ⟨b, 1, none⟩) hlt1).trans c1; clear hb2)
      | (refine step_strW rfl (.tmp 28) (.tmp 34) 22 9 rfl B 5 i0 Tryd.underlying22 Tryd.underlying9 hi0 hi1 hi2 hi3 (.slice A L c) L l2 (by rfl) (own_below HO.out HB2.out) MS (by rfl) n1 HN1.out (by omega) (Nat.le_trans hz1 HB2.out.size) (by have := HMZ.out; omega) ?_; intro gg cap w3 ho3 hg3; have HO3 := Lib.hid ho3; have HG3 := Lib.hid hg3; have hb3 : w3.heap[b]? = some (.cells #[.int .i64 3, .slice A L c, .bool last2] 88 (0, 0)) := (hg3.block b (Nat.lt_of_lt_of_le hlt1 HB2.out.size) (fun e => HNE.out e.symm)).trans ((HB2.out.block b hlt1).trans HBK.out); have q1 : w3.cell? ⟨b, 1, none⟩ = some (.slice A L c) := (by rw [Lib.cell_of_heap hb3]; rfl); have f1 : w3.frozen? ⟨b, 1, none⟩ = false := Lib.frozen_of_heap hb3 1; clear ho3 hg3 hb3)))
    all_goals
      have HR4 := Lib.hid (RWS.put (f := 3) (last := last2) (l := l2) (l' := l2 ++ MS.data.toList) hBb (w := w2) (A := A) (c := c) (w3 := w3) (g := gg) (cap := cap) (n' := n1) (by rw [HLL.out]; exact (HB2.out.block b hlt1).trans HBK.out) (by rw [HLL.out]; exact HNE.out) HO3.out (by rw [HLL.out]; exact HG3.out) (by rw [List.length_append, HLL.out]; exact HN1.out))
      have HB4 := Lib.hid (show Below B w (w3.setCell ⟨b, 1, none⟩ (.slice (some ⟨gg, 0, none⟩) n1 cap)) from (((HB1.out).trans (HB2.out.mono hz1)).trans (below_grown HG3.out (own_lt (own_below HO.out HB2.out)) (Nat.le_trans hz1 HB2.out.size))).setCell (p := ⟨b, 1, none⟩) hBb _)
      generalize w3.setCell ⟨b, 1, none⟩ (.slice (some ⟨gg, 0, none⟩) n1 cap) = W4 at *
      have k0 := HR4.out.cell0
      clear c0 c1 d1 q1 f1
      go_upto_region 7 with fail
      have hz4 := HR4.out.lt
      go_wp2_with (go_at_call 83; refine (HMB.out 3 rfl _).mono ?_; rintro e w5 ⟨rfl, hb5⟩; have HB5 := Lib.hid hb5; have hr5 := HR4.out.below hb5; have m2 := hr5.cell2; have mf := hr5.frozen 2; have HR5 := Lib.hid hr5; clear hr5 hb5)
      go_end0
      have hr6 := HR5.out.setLast ODD
      rw [HWM.out, HMD.out]
      exact ⟨rfl, hr6, (HB4.out.trans (HB5.out.mono (Nat.le_trans hBw HB4.out.size))).setCell (p := ⟨b, 2, none⟩) hBb _⟩
end Go.Proofs.YtabmdbhbbmnkdaaDoor
