/-
  Tracks: the program builds a track.
-/
import Derived.Test.YtabmdbhbbmnkdaaDoorBtC
namespace Go.Proofs.YtabmdbhbbmnkdaaDoor
open Go Go.ChangeShapes Go.WideShapes Go.ChangeAt Go.RowKit Go.Joins lib
set_option linter.unusedVariables false
set_option linter.unusedSimpArgs false
set_option maxRecDepth 100000
theorem filler_any (f : Nat) (hf : f123 f) (x : Int) (hx : x = f) (w : World) : Calls Tryd.prog 61 #[.int .i64 x] w fun e w' => e = .returned (.string ⟨#[fillY f]⟩) ∧ Below w.heap.size w w' := by
  subst hx
  rcases hf with rfl | rfl | rfl <;> (
    go_enter Tryd.func61, Tryd.ntmps61
    go_wp2
    go_ret
    exact ⟨rfl, (Below.refl _ _).alloc (Nat.le_refl _) _⟩)
theorem repeat_one (y : UInt8) : ∀ n, Lib.repeatL [y] n = List.replicate n y
  | 0 => rfl
  | n + 1 => by
    rw [Lib.repeatL, repeat_one y n, List.replicate_succ]
    rfl
theorem fillRep_any (f g : Nat) (hg : g ≤ 20) (w : World) : Calls Tryd.prog 60 #[.string ⟨#[fillY f]⟩, .int .i64 (g : Int)] w fun e w' => e = .returned (.string (strL (List.replicate g (fillY f)))) ∧ Below w.heap.size w w' := by
  refine (Tryd.strings_Repeat ⟨#[fillY f]⟩ g w (by omega) (by show 1 * g ≤ _; omega)).mono ?_
  rintro e w' ⟨rfl, hb⟩
  refine ⟨?_, hb⟩
  rw [← repeat_one]
  rfl
theorem run_bstr4 (W : World) (x y z u : Int) : (convert 22 9 (.slice (some ⟨W.heap.size, 0, none⟩) 4 4)).run Tryd.prog (W.alloc (.cells #[.int .u8 x, .int .u8 y, .int .u8 z, .int .u8 u] 5)) = .ok (.string ⟨#[UInt8.ofNat x.toNat, UInt8.ofNat y.toNat, UInt8.ofNat z.toNat, UInt8.ofNat u.toNat]⟩) (W.alloc (.cells #[.int .u8 x, .int .u8 y, .int .u8 z, .int .u8 u] 5)) := by
  have h := run_convert_bytes_arg (P := Tryd.prog) (w := W.alloc (.cells #[.int .u8 x, .int .u8 y, .int .u8 z, .int .u8 u] 5)) 22 5 Tryd.underlying22 Tryd.underlying5 W.heap.size 0 4 4 [x, y, z, u] rfl (fun i hi => by
    have : i = 0 ∨ i = 1 ∨ i = 2 ∨ i = 3 := by omega
    rcases this with rfl | rfl | rfl | rfl <;> simp [World.cell?_alloc_new]) 9 Tryd.underlying9
  rw [h]; rfl
theorem wrap_u8i (n : Int) (h0 : 0 ≤ n) (h : n ≤ 255) : IntKind.u8.wrap n = n := by rw [IntKind.wrap_u8]; omega
theorem idBytes_any (s : SS) (hs : s.ok) (w : World) : Calls Tryd.prog 38 #[s.val] w fun e w' => e = .returned (.string (strL s.id)) ∧ Below w.heap.size w w' := by
  obtain ⟨h1, h2, h3, h4, _⟩ := hs
  unfold SS.val SS.cells SS.id
  obtain ⟨cy, hdd, no, sz, dt, dl, bi, bd⟩ := s
  simp only at *
  have e1 := wrap_u8i cy h1.1 h1.2
  have e2 := wrap_u8i hdd h2.1 h2.2
  have e3 := wrap_u8i no h3.1 h3.2
  have e4 := wrap_u8i sz h4.1 (by omega)
  have hcv := run_bstr4 (w.alloc (.cells #[.int .i64 cy, .int .i64 hdd, .int .i64 no, .int .i64 sz, .string dt, .bool dl, .bool bi, .bool bd] 44)) cy hdd no sz
  rw [World.size_alloc] at hcv
  clear h1 h2 h3 h4
  go_enter Tryd.func38, Tryd.ntmps38
  go_wp2
  go_ret
  exact ⟨rfl, ((Below.refl _ _).alloc (Nat.le_refl _) _).alloc (by simp) _⟩
theorem dataKind_any (s : SS) (w : World) : Calls Tryd.prog 39 #[s.val] w fun e w' => e = .returned (.int .i64 (s.kd : Nat)) ∧ Below w.heap.size w w' := by
  unfold SS.val SS.cells SS.kd
  obtain ⟨cy, hdd, no, sz, dt, dl, bi, bd⟩ := s
  simp only
  cases dl <;> (
    go_enter Tryd.func39, Tryd.ntmps39
    go_wp2
    go_ret
    exact ⟨rfl, (Below.refl _ _).alloc (Nat.le_refl _) _⟩)
def zTW : Array Value := #[.int .i64 0, .bool false, .pointer none, .slice none 0 0]
theorem wSect_step (f g : Nat) (w : WS) (s : SS) : wSect f g w s = wBytes f (wMark f s.kd (wBytes f (wBytes f (wMark f 1 (wBytes f w (List.replicate g (fillY f)))) (fieldL f 1 s.id s.bi)) [fillY f, fillY f])) (fieldL f s.kd s.dt.data.toList s.bd) := rfl
theorem foldl_len (f g : Nat) (hg : g ≤ 20) : ∀ (l : List SS) (w : WS), (∀ s ∈ l, s.ok) → (l.foldl (wSect f g) w).2.length ≤ w.2.length + l.length * 1300
  | [], w, _ => by simp
  | s :: r, w, h => by
    rw [List.foldl_cons]
    have h1 := foldl_len f g hg r (wSect f g w s) (fun t ht => h t (List.mem_cons_of_mem _ ht))
    have h2 := wSect_len f g w s (h s (List.mem_cons_self ..)) hg
    rw [List.length_cons]
    omega
theorem encF3_ne (f : Nat) (hf : f123 f) (b : Bool) (l : List UInt8) (h : l ≠ []) : encF3 f b l ≠ [] := by
  intro e
  have h2 := congrArg List.length e
  have h3 : 0 < l.length := by
    rcases Nat.eq_zero_or_pos l.length with h0 | h0
    · exact absurd (List.length_eq_zero_iff.1 h0) h
    · exact h0
  unfold encF3 at h2
  rcases hf with rfl | rfl | rfl
  · rw [if_pos rfl, encL_len, bitsL_len] at h2
    simp at h2
    omega
  · rw [if_neg (by omega), if_pos rfl, encL_len, bitsL_len] at h2
    simp at h2
    omega
  · rw [if_neg (by omega), if_neg (by omega), gcrL_len] at h2
    simp at h2
    omega
/-- the state within a sector: the writer, the track's box, the sector's box -/
def BSt (w : World) (q q' f : Nat) (tc sc : Array Value) (s : WS) (w' : World) : Prop := TWS (q + 1) (q + 1) f s w' ∧ Rw w' q 25 tc ∧ Rw w' q' 44 sc ∧ Below q w w' ∧ q + 2 ≤ q'
theorem BSt.quiet {w : World} {q q' f : Nat} {tc sc : Array Value} {s : WS} {W W' : World} (h : BSt w q q' f tc sc s W) (hb : Below W.heap.size W W') : BSt w q q' f tc sc s W' := by
  obtain ⟨h1, h2, h3, h4, h5⟩ := h
  have hq := h2.lt
  exact ⟨TW.below h1 hb, h2.below hb hq, h3.below hb h3.lt, h4.trans (hb.mono (by omega)), h5⟩
theorem BSt.step {w : World} {q q' f : Nat} {tc sc : Array Value} {s s' : WS} {W W' : World} (h : BSt w q q' f tc sc s W) (ht : TWS (q + 1) (q + 1) f s' W') (hb : Below (q + 1) W W') (hk : KpW (q + 1) W W') : BSt w q q' f tc sc s' W' := by
  obtain ⟨h1, h2, h3, h4, h5⟩ := h
  refine ⟨ht, h2.below hb (by omega), ?_, h4.trans (hb.mono (by omega)), h5⟩
  exact hk q' sc 44 (0, 0) h3 (by decide) (by omega)
theorem BSt.gcr {w : World} {q q' f : Nat} {tc sc : Array Value} {s : WS} {W : World} (h : BSt w q q' f tc sc s W) (hw : GcrW w) (hq : w.heap.size = q) : GcrW W := by
  have := h.2.2.2.1
  rw [← hq] at this
  exact hw.below this
theorem bst_bytes {w : World} {q q' f : Nat} {tc sc : Array Value} {s : WS} {W : World} (hf : f123 f) (hw : GcrW w) (hq : w.heap.size = q) (h : BSt w q q' f tc sc s W) (t : ByteArray) (ht : t.size ≤ 64) (ht0 : t.size ≠ 0) (hl : s.2.length ≤ 65536) :
    Calls Tryd.prog 62 #[.pointer (some ⟨q + 1, 0, none⟩), .string t] W fun e w' => e = .returned (.tuple #[]) ∧ BSt w q q' f tc sc (wBytes f s t.data.toList) w' := by
  have hg := hw.lt
  have hlt := h.1.lt
  refine (twBytes_any hf t ht ht0 h.1 hl (by omega) (h.gcr hw hq) (by omega)).mono ?_
  rintro e w' ⟨rfl, h1, h2, h3⟩
  exact ⟨rfl, h.step h1 h2 h3⟩
theorem bst_mark {w : World} {q q' f k : Nat} {tc sc : Array Value} {s : WS} {W : World} (hf : f123 f) (hk : f123 k) (hw : GcrW w) (hq : w.heap.size = q) (h : BSt w q q' f tc sc s W) (hl : s.2.length ≤ 65536) (y : Int) (hy : y = k) :
    Calls Tryd.prog 63 #[.pointer (some ⟨q + 1, 0, none⟩), .int .i64 y] W fun e w' => e = .returned (.tuple #[]) ∧ BSt w q q' f tc sc (wMark f k s) w' := by
  have hg := hw.lt
  have hlt := h.1.lt
  refine (twMark_any hf hk h.1 hl (by omega) (h.gcr hw hq) (by omega) y hy).mono ?_
  rintro e w' ⟨rfl, h1, h2, h3⟩
  exact ⟨rfl, h.step h1 h2 h3⟩
set_option maxHeartbeats 8000000 in
theorem buildTrack_any (f g : Nat) (hf : f123 f) (hg1 : 1 ≤ g) (hg : g ≤ 20) (L : List SS) (A : Option Addr) (c : Nat) (w : World) (hn : L.length ≤ 8) (hok : ∀ s ∈ L, s.ok) (hs : SSl w w.heap.size A L) (hw : GcrW w) :
    Calls Tryd.prog 31 #[.agg (trkA f g A L.length c)] w fun e w' => e = .returned (.string (strL (trackL f g L))) ∧ Below w.heap.size w w' := by
  unfold trkA
  have HFI := Lib.hid (fun W => filler_any f hf f rfl W)
  have HRE := Lib.hid (fun W => fillRep_any f g hg W)
  obtain ⟨q, hq⟩ : ∃ q, w.heap.size = q := ⟨_, rfl⟩
  obtain ⟨W2, hW2⟩ : ∃ W2, (w.alloc (.cells #[.int .i64 (f : Int), .int .i64 (g : Int), .slice A L.length c] 25)).alloc (.cells #[.int .i64 (f : Int), .bool false, .pointer none, .slice none 0 0] 99) = W2 := ⟨_, rfl⟩
  have hr : Rw W2 q 25 #[.int .i64 (f : Int), .int .i64 (g : Int), .slice A L.length c] := by
    rw [← hW2, ← hq]
    exact (Rw.new _ _ _).alloc _
  have hb2 : Below q w W2 := by
    rw [← hW2, ← hq]
    exact ((Below.refl _ _).alloc (Nat.le_refl _) _).alloc (by simp) _
  have hz2 : W2.heap.size = q + 2 := by rw [← hW2, ← hq]; simp
  have htw : TWS (q + 1) (q + 1) f (false, []) W2 := by
    refine ⟨Nat.le_refl _, .pointer none, .slice none 0 0, .inl rfl, ?_, ⟨rfl, .inl ⟨rfl, rfl⟩⟩, by simp [Value.ownBlock]⟩
    rw [← hW2, ← hq]
    have := Rw.new (w.alloc (.cells #[.int .i64 (f : Int), .int .i64 (g : Int), .slice A L.length c] 25)) 99 #[.int .i64 (f : Int), .bool false, .pointer none, .slice none 0 0]
    rw [World.size_alloc] at this
    exact this
  have HQ := Lib.hid hq
  have HTW := Lib.hid htw
  have HB2 := Lib.hid hb2
  have HZ2 := Lib.hid hz2
  have HR := Lib.hid hr
  have HW := Lib.hid hw
  have HS := Lib.hid hs
  have HOK := Lib.hid hok
  have hW2' := hW2
  rw [hq] at hs
  go_enter Tryd.func31, Tryd.ntmps31
  go_upto_region 2 with fail
  clear hW2 hW2' hq hs hz2 htw hb2 hw hok hr
  have hr := HR.out
  have k0 := hr.cell 0
  have k1 := hr.cell 1
  have k2 := hr.cell 2
  have hr2 := hr
  clear hr
  obtain ⟨GL, hGL⟩ : ∃ GL, List.replicate g (fillY f) = GL := ⟨_, rfl⟩
  rw [hGL] at HRE
  have hgl : GL.length = g := by rw [← hGL, List.length_replicate]
  obtain ⟨GS, hGS⟩ : ∃ GS, strL GL = GS := ⟨_, rfl⟩
  rw [hGS] at HRE
  have HGS := Lib.hid (show GS.size = g by rw [← hGS, strL_size, hgl])
  have HGD := Lib.hid (show GS.data.toList = List.replicate g (fillY f) by rw [← hGS, strL_list, hGL])
  clear hGS hGL hgl
  go_cut [4] (fun s4 wx => s4 = .string GS ∧ Below W2.heap.size W2 wx)
  case first =>
    have d0 : W2.drew.cell? ⟨q, 0, none⟩ = some (.int .i64 (f : Int)) := k0
    have d1 : W2.drew.cell? ⟨q, 1, none⟩ = some (.int .i64 (g : Int)) := k1
    clear hr2
    go_region_law (go_simp; (first
      | (go_at_call 61; refine (HFI.out _).mono ?_; rintro e w1 ⟨rfl, hb1⟩; have r1 := (HR.out.drew).below hb1 (by have := HZ2.out; show q < W2.heap.size; omega); have e1 := r1.cell 1)
      | (go_at_call 60; refine (HRE.out _).mono ?_; rintro e w3 ⟨rfl, hb3⟩)))
    all_goals
      go_wp2_with fail
      go_meet
      exact ⟨rfl, ((Below.refl _ _).drew.trans hb1).trans (hb3.mono hb1.size)⟩
  case rest =>
    obtain ⟨rfl, hbx⟩ := hcut
    have hzx := hbx.size
    have HTX := Lib.hid (TW.below HTW.out hbx)
    have hqlt : q < W2.heap.size := by have := HZ2.out; omega
    have hrx := hr2.below hbx hqlt
    have HRX := Lib.hid hrx
    have HBX := Lib.hid (HB2.out.trans (hbx.mono (Nat.le_of_lt hqlt)))
    have HZX := Lib.hid (show q + 2 ≤ wc.heap.size by have := HZ2.out; omega)
    have k2x := hrx.cell 2
    clear k0 k1 k2 hr2 hbx hrx hzx hqlt HTW
    obtain ⟨N, hN⟩ : ∃ N, L.length = N := ⟨_, rfl⟩
    have HN := Lib.hid hN
    rw [hN] at hn k2x HRX
    clear hN
    go_wp2_with fail
    clear k2x
    obtain ⟨tc, htc⟩ : ∃ tc : Array Value, #[.int .i64 (f : Int), .int .i64 (g : Int), .slice A N c] = tc := ⟨_, rfl⟩
    rw [htc] at HRX
    have HTC := Lib.hid htc
    clear htc
    go_loopw [20] (fun s20 wr => ∃ k : Nat, k ≤ N ∧ s20 = .int .i64 k ∧ TWS (q + 1) (q + 1) f ((L.take k).foldl (wSect f g) (false, [])) wr ∧ Rw wr q 25 tc ∧ Below q w wr ∧ q + 2 ≤ wr.heap.size) (fun i _ => N - (intOf i).toNat)
    case atStart => exact ⟨0, by omega, rfl, HTX.out, HRX.out, HBX.out, HZX.out⟩
    case round =>
      obtain ⟨k, hk, rfl, htw, hrr, hbr, hzr⟩ := hrel
      have HTR := Lib.hid htw
      have HRR := Lib.hid hrr
      have HBR := Lib.hid hbr
      have HSL := Lib.hid (show ((L.take k).foldl (wSect f g) (false, [])).2.length ≤ 10400 by
        have h1 := foldl_len f g hg (L.take k) (false, []) (fun s h => HOK.out s (List.mem_of_mem_take h))
        have h2 : (L.take k).length ≤ 8 := by rw [List.length_take, HN.out]; omega
        have h3 : ((false, ([] : List UInt8)) : WS).2.length = 0 := rfl
        omega)
      clear htw hrr hbr
      by_cases hlt : k < N
      · have hkL : k < L.length := by rw [HN.out]; exact hlt
        obtain ⟨b, o, rfl, hbb, c0, c1, c2, c3, c4, c5, c6, c7⟩ := (HS.out.below (by rw [HQ.out]; exact HBR.out)).elem hkL
        have hmem : sAt L k ∈ L := by
          unfold sAt
          rw [List.getD_eq_getElem?_getD, List.getElem?_eq_getElem hkL]
          exact List.getElem_mem hkL
        have hsk := HOK.out _ hmem
        have HFO := Lib.hid (show (L.take (k + 1)).foldl (wSect f g) (false, []) = wSect f g ((L.take k).foldl (wSect f g) (false, [])) (sAt L k) by
          rw [List.take_succ_eq_append_getElem hkL, List.foldl_append]
          unfold sAt
          rw [List.getD_eq_getElem?_getD, List.getElem?_eq_getElem hkL]
          rfl)
        obtain ⟨s0, hs0⟩ : ∃ s0, (L.take k).foldl (wSect f g) (false, []) = s0 := ⟨_, rfl⟩
        rw [hs0] at HFO HSL HTR
        obtain ⟨S, hS⟩ : ∃ S, sAt L k = S := ⟨_, rfl⟩
        rw [hS] at c0 c1 c2 c3 c4 c5 c6 c7 hsk HFO
        have hi8 : (k : Int) < (N : Int) := by omega
        clear hS hkL hmem hs0
        obtain ⟨q', hq'⟩ : ∃ q', wr.heap.size = q' := ⟨_, rfl⟩
        obtain ⟨W3, hW3⟩ : ∃ W3, wr.alloc (.cells #[.int .i64 S.cy, .int .i64 S.hd, .int .i64 S.no, .int .i64 S.sz, .string S.dt, .bool S.dl, .bool S.bi, .bool S.bd] 44) = W3 := ⟨_, rfl⟩
        have HST := Lib.hid (show BSt w q q' f tc S.cells s0 W3 by
          rw [← hW3, ← hq']
          exact ⟨TW.below HTR.out ((Below.refl _ _).alloc (Nat.le_refl _) _), HRR.out.alloc _, Rw.new _ _ _, HBR.out.alloc (by omega) _, hzr⟩)
        have HSK := Lib.hid hsk
        have HFD := Lib.hid (fieldL_len f 1 S.id S.bi)
        have HFE := Lib.hid (fieldL_len f S.kd S.dt.data.toList S.bd)
        have HDT := Lib.hid hsk.len
        have HID := Lib.hid (fun W => idBytes_any S hsk W)
        have HKD := Lib.hid (fun W => dataKind_any S W)
        have HCF := Lib.hid (fun W => checkedField_any f 1 hf (.inl rfl) (strL S.id) (by rw [strL_size]; unfold SS.id; simp) S.bi f 1 rfl rfl W)
        have HCG := Lib.hid (fun W => checkedField_any f S.kd hf S.kd123 S.dt (by have := hsk.len; omega) S.bd f S.kd rfl rfl W)
        rw [strL_list] at HCF
        unfold SS.val SS.cells at HID HKD
        obtain ⟨I, hI⟩ : ∃ I, strL S.id = I := ⟨_, rfl⟩
        rw [hI] at HID HCF
        obtain ⟨F1, hF1⟩ : ∃ F1, strL (fieldL f 1 S.id S.bi) = F1 := ⟨_, rfl⟩
        rw [hF1] at HCF
        have HF1 := Lib.hid (show F1.data.toList = fieldL f 1 S.id S.bi by rw [← hF1, strL_list])
        have HF1z := Lib.hid (show F1.size = 6 by rw [← hF1, strL_size, HFD.out]; rfl)
        obtain ⟨F2, hF2⟩ : ∃ F2, strL (fieldL f S.kd S.dt.data.toList S.bd) = F2 := ⟨_, rfl⟩
        rw [hF2] at HCG
        have HF2 := Lib.hid (show F2.data.toList = fieldL f S.kd S.dt.data.toList S.bd by rw [← hF2, strL_list])
        have HF2z := Lib.hid (show F2.size = S.dt.size + 2 by rw [← hF2, strL_size, HFE.out]; rfl)
        obtain ⟨KD, hKD⟩ : ∃ KD, S.kd = KD := ⟨_, rfl⟩
        rw [hKD] at HKD HCG
        have HKDD := Lib.hid hKD
        clear hI hF1 hF2 hKD hsk
        go_upto_region 6 with fail
        clear hW3 hq' c0 c1 c2 c3 c4 c5 c6 c7 hi8
        have l0 := HSL.out
        have l1 := wBytes_len f s0 (List.replicate g (fillY f))
        rw [List.length_replicate] at l1
        have HY1 := Lib.hid (show wBytes f s0 GS.data.toList = wBytes f s0 (List.replicate g (fillY f)) by rw [HGD.out])
        obtain ⟨s1, hs1⟩ : ∃ s1, wBytes f s0 (List.replicate g (fillY f)) = s1 := ⟨_, rfl⟩
        have HS1 := Lib.hid hs1
        rw [hs1] at l1 HY1
        have L1 := Lib.hid (show s1.2.length ≤ 11000 by omega)
        clear l0 l1 hs1
        go_upto_region 7 with (go_at_call 62; refine (bst_bytes hf HW.out HQ.out HST.out GS (by have := HGS.out; omega) (by have := HGS.out; omega) (by have := HSL.out; omega)).mono ?_; rintro e w4 ⟨rfl, h4⟩)
        rw [HY1.out] at h4
        have H4 := Lib.hid h4
        have l2 := wMark_len f 1 s1
        obtain ⟨s2, hs2⟩ : ∃ s2, wMark f 1 s1 = s2 := ⟨_, rfl⟩
        have HS2 := Lib.hid hs2
        rw [hs2] at l2
        have L2 := Lib.hid (show s2.2.length ≤ 11200 by have := L1.out; omega)
        clear l2 hs2 h4
        go_upto_region 8 with (go_at_call 63; refine (bst_mark (k := 1) hf (.inl rfl) HW.out HQ.out H4.out (by have := L1.out; omega) _ rfl).mono ?_; rintro e w5 ⟨rfl, h5⟩)
        rw [HS2.out] at h5
        have H5 := Lib.hid h5
        have l3 := wBytes_len f s2 (fieldL f 1 S.id S.bi)
        rw [HFD.out, show S.id.length = 4 from rfl] at l3
        have HY3 := Lib.hid (show wBytes f s2 F1.data.toList = wBytes f s2 (fieldL f 1 S.id S.bi) by rw [HF1.out])
        obtain ⟨s3, hs3⟩ : ∃ s3, wBytes f s2 (fieldL f 1 S.id S.bi) = s3 := ⟨_, rfl⟩
        have HS3 := Lib.hid hs3
        rw [hs3] at l3 HY3
        have L3 := Lib.hid (show s3.2.length ≤ 11400 by have := L2.out; omega)
        clear l3 hs3 h5
        go_cut [] (fun wx => BSt w q q' f tc S.cells s3 wx)
        case first =>
          have ht := HTC.out
          have hr5 := H5.out.2.1
          have hs5 := H5.out.2.2.1
          rw [← ht] at hr5
          have d0 : w5.drew.cell? ⟨q, 0, none⟩ = some (.int .i64 (f : Int)) := hr5.cell 0
          have e0 : w5.drew.cell? ⟨q', 0, none⟩ = some (.int .i64 S.cy) := hs5.cell 0
          have e1 : w5.drew.cell? ⟨q', 1, none⟩ = some (.int .i64 S.hd) := hs5.cell 1
          have e2 : w5.drew.cell? ⟨q', 2, none⟩ = some (.int .i64 S.no) := hs5.cell 2
          have e3 : w5.drew.cell? ⟨q', 3, none⟩ = some (.int .i64 S.sz) := hs5.cell 3
          have e4 : w5.drew.cell? ⟨q', 4, none⟩ = some (.string S.dt) := hs5.cell 4
          have e5 : w5.drew.cell? ⟨q', 5, none⟩ = some (.bool S.dl) := hs5.cell 5
          have e6 : w5.drew.cell? ⟨q', 6, none⟩ = some (.bool S.bi) := hs5.cell 6
          have e7 : w5.drew.cell? ⟨q', 7, none⟩ = some (.bool S.bd) := hs5.cell 7
          clear ht hr5 hs5
          go_region_law (go_simp; (first
            | (go_at_call 38; refine (HID.out _).mono ?_; rintro e w6 ⟨rfl, hb6⟩; have H6 := Lib.hid (H5.out.quiet ((Below.refl _ _).drew.trans hb6)); have dd0 : w6.cell? ⟨q, 0, none⟩ = some (.int .i64 (f : Int)) := (hb6.cell (p := ⟨q, 0, none⟩) H5.out.2.1.lt).trans d0; have dd6 : w6.cell? ⟨q', 6, none⟩ = some (.bool S.bi) := (hb6.cell (p := ⟨q', 6, none⟩) H5.out.2.2.1.lt).trans e6)
            | (go_at_call 37; refine (HCF.out _).mono ?_; rintro e w7 ⟨rfl, hb7⟩; have H7 := Lib.hid (H6.out.quiet hb7))
            | (go_at_call 62; refine (bst_bytes hf HW.out HQ.out H7.out F1 (by have := HF1z.out; omega) (by have := HF1z.out; omega) (by have := L2.out; omega)).mono ?_; rintro e w8 ⟨rfl, h8⟩)))
          all_goals
            go_wp2_with fail
            go_meet
            rw [HY3.out] at h8
            exact h8
        case rest =>
          have h6 := hcut
          clear hcut
          have HFL2 := Lib.hid (fun W => fillRep_any f 2 (by omega) W)
          have l4 := wBytes_len f s3 [fillY f, fillY f]
          rw [show [fillY f, fillY f].length = 2 from rfl] at l4
          obtain ⟨G2, hG2⟩ : ∃ G2, strL (List.replicate 2 (fillY f)) = G2 := ⟨_, rfl⟩
          rw [hG2] at HFL2
          have HG2 := Lib.hid (show G2.size = 2 by rw [← hG2, strL_size]; rfl)
          have HY4 := Lib.hid (show wBytes f s3 G2.data.toList = wBytes f s3 [fillY f, fillY f] by rw [← hG2, strL_list]; rfl)
          obtain ⟨s4, hs4⟩ : ∃ s4, wBytes f s3 [fillY f, fillY f] = s4 := ⟨_, rfl⟩
          have HS4 := Lib.hid hs4
          rw [hs4] at l4 HY4
          have L4 := Lib.hid (show s4.2.length ≤ 11500 by have := L3.out; omega)
          have H6 := Lib.hid h6
          clear l4 hs4 hG2 h6
          have ht := HTC.out
          have hr6 := H6.out.2.1
          rw [← ht] at hr6
          have d0 := hr6.cell 0
          clear ht hr6
          go_upto_region 10 with (first
            | (go_at_call 61; refine (HFI.out _).mono ?_; rintro e w7 ⟨rfl, hb7⟩; have H7 := Lib.hid (H6.out.quiet hb7))
            | (go_at_call 60; refine (HFL2.out _).mono ?_; rintro e w8 ⟨rfl, hb8⟩; have H8 := Lib.hid (H7.out.quiet hb8))
            | (go_at_call 62; refine (bst_bytes hf HW.out HQ.out H8.out G2 (by have := HG2.out; omega) (by have := HG2.out; omega) (by have := L3.out; omega)).mono ?_; rintro e w9 ⟨rfl, h9⟩))
          rw [HY4.out] at h9
          have H9 := Lib.hid h9
          clear hb7 hb8 d0
          have l5 := wMark_len f KD s4
          obtain ⟨s5, hs5⟩ : ∃ s5, wMark f KD s4 = s5 := ⟨_, rfl⟩
          have HS5 := Lib.hid hs5
          rw [hs5] at l5
          have L5 := Lib.hid (show s5.2.length ≤ 11700 by have := L4.out; omega)
          clear l5 hs5
          have hs9 := h9.2.2.1
          have e0 : w9.cell? ⟨q', 0, none⟩ = some (.int .i64 S.cy) := hs9.cell 0
          have e1 : w9.cell? ⟨q', 1, none⟩ = some (.int .i64 S.hd) := hs9.cell 1
          have e2 : w9.cell? ⟨q', 2, none⟩ = some (.int .i64 S.no) := hs9.cell 2
          have e3 : w9.cell? ⟨q', 3, none⟩ = some (.int .i64 S.sz) := hs9.cell 3
          have e4 : w9.cell? ⟨q', 4, none⟩ = some (.string S.dt) := hs9.cell 4
          have e5 : w9.cell? ⟨q', 5, none⟩ = some (.bool S.dl) := hs9.cell 5
          have e6 : w9.cell? ⟨q', 6, none⟩ = some (.bool S.bi) := hs9.cell 6
          have e7 : w9.cell? ⟨q', 7, none⟩ = some (.bool S.bd) := hs9.cell 7
          clear hs9 h9
          go_upto_region 11 with (first
            | (go_at_call 39; refine (HKD.out _).mono ?_; rintro e w10 ⟨rfl, hb10⟩; have H10 := Lib.hid (H9.out.quiet hb10))
            | (go_at_call 63; refine (bst_mark (k := KD) hf (HKDD.out ▸ S.kd123) HW.out HQ.out H10.out (by have := L4.out; omega) _ rfl).mono ?_; rintro e w11 ⟨rfl, h11⟩))
          rw [HS5.out] at h11
          have H11 := Lib.hid h11
          clear hb10 e0 e1 e2 e3 e4 e5 e6 e7 h11
          have l6 := wBytes_len f s5 (fieldL f S.kd S.dt.data.toList S.bd)
          rw [HFE.out, show S.dt.data.toList.length = S.dt.size from rfl] at l6
          have HY6 := Lib.hid (show wBytes f s5 F2.data.toList = wBytes f s5 (fieldL f S.kd S.dt.data.toList S.bd) by rw [HF2.out])
          obtain ⟨s6, hs6⟩ : ∃ s6, wBytes f s5 (fieldL f S.kd S.dt.data.toList S.bd) = s6 := ⟨_, rfl⟩
          have HS6 := Lib.hid hs6
          rw [hs6] at l6 HY6
          clear l6 hs6
          have HALL := Lib.hid (show wSect f g s0 S = s6 by rw [wSect_step, HS1.out, HS2.out, HS3.out, HS4.out, HKDD.out, HS5.out, ← HKDD.out, HS6.out])
          have ht := HTC.out
          have hr5 := H11.out.2.1
          have hs5 := H11.out.2.2.1
          rw [← ht] at hr5
          have d0 : w11.drew.cell? ⟨q, 0, none⟩ = some (.int .i64 (f : Int)) := hr5.cell 0
          have e0 : w11.drew.cell? ⟨q', 0, none⟩ = some (.int .i64 S.cy) := hs5.cell 0
          have e1 : w11.drew.cell? ⟨q', 1, none⟩ = some (.int .i64 S.hd) := hs5.cell 1
          have e2 : w11.drew.cell? ⟨q', 2, none⟩ = some (.int .i64 S.no) := hs5.cell 2
          have e3 : w11.drew.cell? ⟨q', 3, none⟩ = some (.int .i64 S.sz) := hs5.cell 3
          have e4 : w11.drew.cell? ⟨q', 4, none⟩ = some (.string S.dt) := hs5.cell 4
          have e5 : w11.drew.cell? ⟨q', 5, none⟩ = some (.bool S.dl) := hs5.cell 5
          have e6 : w11.drew.cell? ⟨q', 6, none⟩ = some (.bool S.bi) := hs5.cell 6
          have e7 : w11.drew.cell? ⟨q', 7, none⟩ = some (.bool S.bd) := hs5.cell 7
          clear ht hr5 hs5
          go_region_law (go_simp; (first
            | (go_at_call 39; refine (HKD.out _).mono ?_; rintro e w12 ⟨rfl, hb12⟩; have H12 := Lib.hid (H11.out.quiet ((Below.refl _ _).drew.trans hb12)); have dd0 : w12.cell? ⟨q, 0, none⟩ = some (.int .i64 (f : Int)) := (hb12.cell (p := ⟨q, 0, none⟩) H11.out.2.1.lt).trans d0; have dd4 : w12.cell? ⟨q', 4, none⟩ = some (.string S.dt) := (hb12.cell (p := ⟨q', 4, none⟩) H11.out.2.2.1.lt).trans e4; have dd7 : w12.cell? ⟨q', 7, none⟩ = some (.bool S.bd) := (hb12.cell (p := ⟨q', 7, none⟩) H11.out.2.2.1.lt).trans e7)
            | (go_at_call 37; refine (HCG.out _).mono ?_; rintro e w13 ⟨rfl, hb13⟩; have H13 := Lib.hid (H12.out.quiet hb13))
            | (go_at_call 62; refine (bst_bytes hf HW.out HQ.out H13.out F2 (by have := HF2z.out; have := HDT.out; omega) (by have := HF2z.out; omega) (by have := L5.out; omega)).mono ?_; rintro e w14 ⟨rfl, h14⟩)))
          all_goals
            rw [HY6.out] at h14
            obtain ⟨h1, h2, h3, h4, h5⟩ := h14
            have h6 := h1.lt
            go_wp2_with fail
            exact ⟨⟨k + 1, by omega, by go_num, by rw [HFO.out, HALL.out]; exact h1, h2, h4, by omega⟩, by simp [intOf]; omega⟩
      · obtain rfl : k = N := by omega
        have htk : L.take k = L := List.take_of_length_le (Nat.le_of_eq HN.out)
        rw [htk] at HTR HSL
        have hlt2 := HTR.out.lt
        have hgl := HW.out.lt
        have hgq : GcrW wr := HW.out.below (by rw [HQ.out]; exact HBR.out)
        have HT1 := Lib.hid (twBytes_any hf GS (by have := HGS.out; omega) (by have := HGS.out; omega) HTR.out (by have := HSL.out; omega) (by omega) hgq (by have := HQ.out; omega))
        have HNE := Lib.hid (show (wBytes f (L.foldl (wSect f g) (false, [])) GS.data.toList).2 ≠ [] by
          have h1 := encF3_ne f hf (L.foldl (wSect f g) (false, [])).1 GS.data.toList (by
            intro e
            have h2 := HGS.out
            have h3 : GS.data.toList.length = GS.size := rfl
            rw [e] at h3
            simp at h3
            omega)
          unfold wBytes
          intro e
          exact h1 (List.append_eq_nil_iff.1 e).2)
        have HE := Lib.hid (show (wBytes f (L.foldl (wSect f g) (false, [])) GS.data.toList).2 = trackL f g L by unfold trackL; rw [HGD.out])
        clear hgq hgl htk
        go_upto_region 14 with (go_at_call 62; refine HT1.out.mono ?_; rintro e w4 ⟨rfl, h4, hb4, hk4⟩)
        have HS4 := Lib.hid (tw_string h4 HNE.out)
        have HB4 := Lib.hid hb4
        clear h4 hb4 hk4
        go_wp2_with (go_at_call 64; refine HS4.out.mono ?_; rintro e w5 ⟨rfl, hb5⟩)
        go_ret
        have hq := HQ.out
        rw [HE.out, hq]
        exact ⟨rfl, (HBR.out.trans (HB4.out.mono (by omega))).trans (hb5.mono (by omega))⟩
end Go.Proofs.YtabmdbhbbmnkdaaDoor
