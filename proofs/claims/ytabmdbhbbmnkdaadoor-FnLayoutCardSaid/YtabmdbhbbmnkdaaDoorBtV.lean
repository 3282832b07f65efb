/-
  Tracks: the program's small functions of a sector and of a track.
-/
import Derived.Test.YtabmdbhbbmnkdaaDoorBtW
namespace Go.Proofs.YtabmdbhbbmnkdaaDoor
open Go Go.ChangeShapes Go.WideShapes Go.ChangeAt Go.RowKit Go.Joins lib
set_option linter.unusedVariables false
set_option linter.unusedSimpArgs false
set_option maxRecDepth 100000
def SS.cells (s : SS) : Array Value := #[.int .i64 s.cy, .int .i64 s.hd, .int .i64 s.no, .int .i64 s.sz, .string s.dt, .bool s.dl, .bool s.bi, .bool s.bd]
def SS.val (s : SS) : Value := .agg s.cells
def inB (lo hi x : Int) : Bool := decide (lo ≤ x) && decide (x ≤ hi)
def szB (x : Int) : Int := 8 * 2 ^ x.toNat
def okLen (s : SS) : Bool := (s.dt.size : Int) == szB s.sz
def SS.okB (s : SS) : Bool := inB 0 255 s.cy && inB 0 255 s.hd && inB 0 255 s.no && inB 0 2 s.sz && okLen s
theorem SS.okB_iff (s : SS) : s.okB = true ↔ s.ok := by
  unfold SS.okB SS.ok inB okLen szB
  simp only [Bool.and_eq_true, decide_eq_true_eq, beq_iff_eq]
  have e : ∀ n : Nat, ((8 * 2 ^ n : Nat) : Int) = 8 * (2 : Int) ^ n := fun n => by simp
  constructor
  · rintro ⟨⟨⟨⟨a, b⟩, c⟩, d⟩, h⟩
    exact ⟨a, b, c, d, by have := e s.sz.toNat; omega⟩
  · rintro ⟨a, b, c, d, h⟩
    exact ⟨⟨⟨⟨a, b⟩, c⟩, d⟩, by rw [h, e]⟩
theorem withinB_any (x lo hi : Int) (w : World) : Calls Tryd.prog 55 #[.int .i64 x, .int .i64 lo, .int .i64 hi] w fun e w' => e = .returned (.bool (inB lo hi x)) ∧ w' = w := by
  refine (within_any x lo hi w).mono ?_
  rintro e w' ⟨rfl, rfl⟩
  exact ⟨rfl, rfl⟩
theorem byteB_any (x : Int) (w : World) : Calls Tryd.prog 70 #[.int .i64 x] w fun e w' => e = .returned (.bool (inB 0 255 x)) ∧ w' = w := by
  go_enter Tryd.func70, Tryd.ntmps70
  go_wp2_with (go_at_call 55; refine (withinB_any _ _ _ _).mono ?_; rintro e w' ⟨rfl, hw'⟩; rw [hw']; clear hw' w')
  go_ret
  exact ⟨rfl, rfl⟩
theorem sizeB_any (x : Int) (h0 : 0 ≤ x) (h2 : x ≤ 2) (w : World) : Calls Tryd.prog 71 #[.int .i64 x] w fun e w' => e = .returned (.int .i64 (szB x)) ∧ w' = w := by
  have : x = 0 ∨ x = 1 ∨ x = 2 := by omega
  rcases this with rfl | rfl | rfl <;> (
    go_enter Tryd.func71, Tryd.ntmps71
    go_wp2
    go_ret
    exact ⟨rfl, rfl⟩)
set_option maxHeartbeats 4000000 in
theorem validSector_any (s : SS) (hd : s.dt.size ≤ 1048576) (w : World) : Calls Tryd.prog 36 #[s.val] w fun e w' => e = .returned (.bool s.okB) ∧ Below w.heap.size w w' := by
  have hr : Rw (w.alloc (.cells s.cells 44)) w.heap.size 44 s.cells := Rw.new _ _ _
  have hb : Below w.heap.size w (w.alloc (.cells s.cells 44)) := (Below.refl _ _).alloc (Nat.le_refl _) _
  have k0 := hr.cell 0
  have k1 := hr.cell 1
  have k2 := hr.cell 2
  have k3 := hr.cell 3
  have k4 := hr.cell 4
  unfold SS.okB SS.val
  have HOL := Lib.hid (show okLen s = ((s.dt.size : Int) == szB s.sz) from rfl)
  unfold SS.cells at *
  obtain ⟨cy, hdd, no, sz, dt, dl, bi, bd⟩ := s
  simp only at *
  have HB := Lib.hid hb
  obtain ⟨b1, g1⟩ : ∃ b, inB 0 255 cy = b := ⟨_, rfl⟩
  obtain ⟨b2, g2⟩ : ∃ b, inB 0 255 hdd = b := ⟨_, rfl⟩
  obtain ⟨b3, g3⟩ : ∃ b, inB 0 255 no = b := ⟨_, rfl⟩
  obtain ⟨b4, g4⟩ : ∃ b, inB 0 2 sz = b := ⟨_, rfl⟩
  obtain ⟨b5, g5⟩ : ∃ b, okLen ⟨cy, hdd, no, sz, dt, dl, bi, bd⟩ = b := ⟨_, rfl⟩
  have H1 := Lib.hid (fun W => g1 ▸ byteB_any cy W)
  have H2 := Lib.hid (fun W => g2 ▸ byteB_any hdd W)
  have H3 := Lib.hid (fun W => g3 ▸ byteB_any no W)
  have H4 := Lib.hid (fun W => g4 ▸ withinB_any sz 0 2 W)
  have hsz : b4 = true → 0 ≤ sz ∧ sz ≤ 2 := by
    rintro rfl
    unfold inB at g4
    simpa using g4
  have h5 : ((dt.size : Int) == szB sz) = b5 := by rw [← HOL.out, g5]
  rw [g1, g2, g3, g4, g5]
  have hr0 := hr
  clear g1 g2 g3 g4 g5 HOL hb hr hr0
  have H5 : True := trivial
  cases b1
  · rw [Bool.false_and, Bool.false_and, Bool.false_and, Bool.false_and]
    clear h5 hsz
    go_enter Tryd.func36, Tryd.ntmps36
    go_wp2
    go_quiet (first
      | (go_at_call 70; first | (with_reducible exact Calls.quiet_of_same (H1.out _)) | (with_reducible exact Calls.quiet_of_same (H2.out _)) | (with_reducible exact Calls.quiet_of_same (H3.out _)))
      | (go_at_call 55; with_reducible exact Calls.quiet_of_same (H4.out _))
      | (go_at_call 71; exact Calls.quiet_of_same (H5.out _)))
    go_wp2
    go_ret
    exact ⟨rfl, HB.out.drewN _⟩
  cases b2
  · rw [Bool.and_false, Bool.false_and, Bool.false_and, Bool.false_and]
    clear h5 hsz
    go_enter Tryd.func36, Tryd.ntmps36
    go_wp2
    go_quiet (first
      | (go_at_call 70; first | (with_reducible exact Calls.quiet_of_same (H1.out _)) | (with_reducible exact Calls.quiet_of_same (H2.out _)) | (with_reducible exact Calls.quiet_of_same (H3.out _)))
      | (go_at_call 55; with_reducible exact Calls.quiet_of_same (H4.out _))
      | (go_at_call 71; exact Calls.quiet_of_same (H5.out _)))
    go_wp2
    go_ret
    exact ⟨rfl, HB.out.drewN _⟩
  cases b3
  · rw [Bool.and_false, Bool.false_and, Bool.false_and]
    clear h5 hsz
    go_enter Tryd.func36, Tryd.ntmps36
    go_wp2
    go_quiet (first
      | (go_at_call 70; first | (with_reducible exact Calls.quiet_of_same (H1.out _)) | (with_reducible exact Calls.quiet_of_same (H2.out _)) | (with_reducible exact Calls.quiet_of_same (H3.out _)))
      | (go_at_call 55; with_reducible exact Calls.quiet_of_same (H4.out _))
      | (go_at_call 71; exact Calls.quiet_of_same (H5.out _)))
    go_wp2
    go_ret
    exact ⟨rfl, HB.out.drewN _⟩
  cases b4
  · rw [Bool.and_false, Bool.false_and]
    clear h5 hsz
    go_enter Tryd.func36, Tryd.ntmps36
    go_wp2
    go_quiet (first
      | (go_at_call 70; first | (with_reducible exact Calls.quiet_of_same (H1.out _)) | (with_reducible exact Calls.quiet_of_same (H2.out _)) | (with_reducible exact Calls.quiet_of_same (H3.out _)))
      | (go_at_call 55; with_reducible exact Calls.quiet_of_same (H4.out _))
      | (go_at_call 71; exact Calls.quiet_of_same (H5.out _)))
    go_wp2
    go_ret
    exact ⟨rfl, HB.out.drewN _⟩
  have H5 := Lib.hid (fun W => sizeB_any sz (hsz rfl).1 (hsz rfl).2 W)
  clear hsz
  obtain ⟨Z, hZ⟩ : ∃ Z, szB sz = Z := ⟨_, rfl⟩
  rw [hZ] at H5 h5
  clear hZ
  cases b5
  · rw [Bool.and_false]
    go_enter Tryd.func36, Tryd.ntmps36
    go_wp2
    go_quiet (first
      | (go_at_call 70; first | (with_reducible exact Calls.quiet_of_same (H1.out _)) | (with_reducible exact Calls.quiet_of_same (H2.out _)) | (with_reducible exact Calls.quiet_of_same (H3.out _)))
      | (go_at_call 55; with_reducible exact Calls.quiet_of_same (H4.out _))
      | (go_at_call 71; exact Calls.quiet_of_same (H5.out _)))
    go_wp2
    go_ret
    exact ⟨rfl, HB.out.drewN _⟩
  · rw [Bool.and_true, Bool.and_true, Bool.and_true, Bool.and_true]
    go_enter Tryd.func36, Tryd.ntmps36
    go_wp2
    go_quiet (first
      | (go_at_call 70; first | (with_reducible exact Calls.quiet_of_same (H1.out _)) | (with_reducible exact Calls.quiet_of_same (H2.out _)) | (with_reducible exact Calls.quiet_of_same (H3.out _)))
      | (go_at_call 55; with_reducible exact Calls.quiet_of_same (H4.out _))
      | (go_at_call 71; exact Calls.quiet_of_same (H5.out _)))
    go_wp2
    go_ret
    exact ⟨rfl, HB.out.drewN _⟩
def noS : SS := ⟨0, 0, 0, 0, .empty, false, false, false⟩
def sAt (L : List SS) (k : Nat) : SS := L.getD k noS
/-- sectors in a slice -/
def SSl (w : World) (B : Nat) (A : Option Addr) (L : List SS) : Prop := Sl w B A (L.length * 8) fun i => (sAt L (i / 8)).cells.getD (i % 8) undef
theorem SSl.below {w W : World} {B : Nat} {A : Option Addr} {L : List SS} (h : SSl w B A L) (hb : Below B w W) : SSl W B A L := Sl.below h hb
theorem SSl.elem {w : World} {B : Nat} {A : Option Addr} {L : List SS} (h : SSl w B A L) {k : Nat} (hk : k < L.length) : ∃ b o, A = some ⟨b, o, none⟩ ∧ b < B ∧ w.cell? ⟨b, o + k * 8, none⟩ = some (.int .i64 (sAt L k).cy) ∧ w.cell? ⟨b, o + k * 8 + 1, none⟩ = some (.int .i64 (sAt L k).hd) ∧ w.cell? ⟨b, o + k * 8 + 2, none⟩ = some (.int .i64 (sAt L k).no) ∧ w.cell? ⟨b, o + k * 8 + 3, none⟩ = some (.int .i64 (sAt L k).sz) ∧ w.cell? ⟨b, o + k * 8 + 4, none⟩ = some (.string (sAt L k).dt) ∧ w.cell? ⟨b, o + k * 8 + 5, none⟩ = some (.bool (sAt L k).dl) ∧ w.cell? ⟨b, o + k * 8 + 6, none⟩ = some (.bool (sAt L k).bi) ∧ w.cell? ⟨b, o + k * 8 + 7, none⟩ = some (.bool (sAt L k).bd) := by
  obtain ⟨b, o, hA, hb, h0⟩ := h (k * 8) (by omega)
  refine ⟨b, o, hA, hb, ?_⟩
  have key : ∀ j, j < 8 → w.cell? ⟨b, o + k * 8 + j, none⟩ = some ((sAt L k).cells.getD j undef) := fun j hj => by
    obtain ⟨b', o', hA', _, hc⟩ := h (k * 8 + j) (by omega)
    obtain ⟨rfl, rfl⟩ : b' = b ∧ o' = o := by
      rw [hA] at hA'
      simp only [Option.some.injEq, Addr.mk.injEq] at hA'
      omega
    rw [Nat.add_assoc, hc]
    simp only []
    rw [show (k * 8 + j) / 8 = k by omega, show (k * 8 + j) % 8 = j by omega]
  exact ⟨key 0 (by omega), key 1 (by omega), key 2 (by omega), key 3 (by omega), key 4 (by omega), key 5 (by omega), key 6 (by omega), key 7 (by omega)⟩
theorem formatB_any (x : Int) (w : World) : Calls Tryd.prog 35 #[.int .i64 x] w fun e w' => e = .returned (.bool (inB 1 3 x)) ∧ w' = w := isFormat_any x w
def trkA (f g : Int) (A : Option Addr) (n c : Nat) : Array Value := #[.int .i64 f, .int .i64 g, .slice A n c]
def okTB (f g : Int) (L : List SS) : Bool := inB 1 3 f && inB 1 20 g && decide (L.length ≤ 8) && L.all SS.okB
theorem okTB_iff (f g : Int) (L : List SS) : okTB f g L = true ↔ okT f g L := by
  unfold okTB okT inB
  simp only [Bool.and_eq_true, decide_eq_true_eq, List.all_eq_true, SS.okB_iff]
  constructor
  · rintro ⟨⟨⟨⟨a, b⟩, c, d⟩, e⟩, f⟩
    exact ⟨a, b, c, d, e, f⟩
  · rintro ⟨a, b, c, d, e, f⟩
    exact ⟨⟨⟨⟨a, b⟩, c, d⟩, e⟩, f⟩
theorem all_take_succ (L : List SS) (k : Nat) (h : k < L.length) : (L.take (k + 1)).all SS.okB = ((L.take k).all SS.okB && (sAt L k).okB) := by
  rw [List.take_succ_eq_append_getElem h, List.all_append]
  unfold sAt
  rw [List.getD_eq_getElem?_getD, List.getElem?_eq_getElem h]
  simp
theorem all_false (L : List SS) (k : Nat) (h : k < L.length) (hf : (sAt L k).okB = false) : L.all SS.okB = false := by
  rw [List.all_eq_false]
  refine ⟨L[k], List.getElem_mem h, ?_⟩
  unfold sAt at hf
  rw [List.getD_eq_getElem?_getD, List.getElem?_eq_getElem h] at hf
  simpa using hf
set_option maxHeartbeats 4000000 in
theorem validTrack_any (f g : Int) (L : List SS) (A : Option Addr) (c : Nat) (w : World) (hn : L.length ≤ 1048576) (hd : ∀ k, k < L.length → (sAt L k).dt.size ≤ 1048576) (hs : SSl w w.heap.size A L) :
    Calls Tryd.prog 29 #[.agg (trkA f g A L.length c)] w fun e w' => e = .returned (.bool (okTB f g L)) ∧ Below w.heap.size w w' := by
  unfold okTB trkA
  have HS := Lib.hid hs
  obtain ⟨N, hN⟩ : ∃ N, L.length = N := ⟨_, rfl⟩
  have HN := Lib.hid hN
  rw [hN] at hn ⊢
  clear hN
  have hr : Rw (w.alloc (.cells #[.int .i64 f, .int .i64 g, .slice A N c] 25)) w.heap.size 25 #[.int .i64 f, .int .i64 g, .slice A N c] := Rw.new _ _ _
  have hb : Below w.heap.size w (w.alloc (.cells #[.int .i64 f, .int .i64 g, .slice A N c] 25)) := (Below.refl _ _).alloc (Nat.le_refl _) _
  have HB := Lib.hid hb
  have k0 := hr.cell 0
  have k1 := hr.cell 1
  have k2 := hr.cell 2
  obtain ⟨b1, g1⟩ : ∃ b, inB 1 3 f = b := ⟨_, rfl⟩
  obtain ⟨b2, g2⟩ : ∃ b, inB 1 20 g = b := ⟨_, rfl⟩
  have H1 := Lib.hid (fun W => g1 ▸ formatB_any f W)
  have H2 := Lib.hid (fun W => g2 ▸ withinB_any g 1 20 W)
  have HD := Lib.hid hd
  rw [g1, g2]
  clear hb hs hr g1 g2 hd
  cases b1
  · rw [Bool.false_and, Bool.false_and, Bool.false_and]
    go_enter Tryd.func29, Tryd.ntmps29
    go_wp2_with (go_at_call 35; refine (H1.out _).mono ?_; rintro e w' ⟨rfl, hw'⟩; rw [hw']; clear hw' w')
    go_ret
    exact ⟨rfl, HB.out⟩
  cases b2
  · rw [Bool.and_false, Bool.false_and, Bool.false_and]
    go_enter Tryd.func29, Tryd.ntmps29
    go_wp2_with (first
      | (go_at_call 35; refine (H1.out _).mono ?_; rintro e w' ⟨rfl, hw'⟩; rw [hw']; clear hw' w')
      | (go_at_call 55; refine (H2.out _).mono ?_; rintro e w' ⟨rfl, hw'⟩; rw [hw']; clear hw' w'))
    go_ret
    exact ⟨rfl, HB.out⟩
  by_cases h8 : N ≤ 8
  · have hi8 : decide ((N : Int) > 8) = false := by simp; omega
    have hi8' : ((N : Int) > 8) = False := by simp; omega
    rw [decide_eq_true h8, Bool.and_true, Bool.and_true, Bool.true_and]
    clear hi8'
    go_enter Tryd.func29, Tryd.ntmps29
    go_wp2_with (first
      | (go_at_call 35; refine (H1.out _).mono ?_; rintro e w' ⟨rfl, hw'⟩; rw [hw']; clear hw' w')
      | (go_at_call 55; refine (H2.out _).mono ?_; rintro e w' ⟨rfl, hw'⟩; rw [hw']; clear hw' w'))
    clear hi8 k0 k1 k2
    go_loopw [24] (fun s24 wr => ∃ k : Nat, k ≤ N ∧ s24 = .int .i64 k ∧ (L.take k).all SS.okB = true ∧ Below w.heap.size w wr) (fun i _ => N - (intOf i).toNat)
    case atStart => exact ⟨0, by omega, rfl, by simp, HB.out⟩
    case round =>
      obtain ⟨k, hk, rfl, hall, hbr⟩ := hrel
      have HA := Lib.hid hall
      have HBR := Lib.hid hbr
      have hzr : w.heap.size ≤ wr.heap.size := hbr.size
      clear hall hbr
      by_cases hlt : k < N
      · have hkL : k < L.length := by rw [HN.out]; exact hlt
        have HTS := Lib.hid (all_take_succ L k hkL)
        have HAF := Lib.hid (all_false L k hkL)
        have hdk := HD.out k hkL
        obtain ⟨b, o, rfl, hbb, c0, c1, c2, c3, c4, c5, c6, c7⟩ := (HS.out.below HBR.out).elem hkL
        obtain ⟨S, hS⟩ : ∃ S, sAt L k = S := ⟨_, rfl⟩
        rw [hS] at c0 c1 c2 c3 c4 c5 c6 c7 hdk HTS HAF
        have hi8 : (k : Int) < (N : Int) := by omega
        clear hS hkL
        have HV := Lib.hid (fun W => validSector_any S hdk W)
        clear hdk
        unfold SS.val SS.cells at HV
        obtain ⟨q, hq⟩ : ∃ q, S.okB = q := ⟨_, rfl⟩
        rw [hq] at HV HTS HAF
        clear hq
        obtain ⟨cy, hdd, no, sz, dt, dl, bi, bd⟩ := S
        simp only at c0 c1 c2 c3 c4 c5 c6 c7 HV
        cases q
        · go_wp2_with (go_at_call 36; refine (HV.out _).mono ?_; rintro e w' ⟨rfl, hb1⟩)
          go_ret
          rw [HAF.out (by first | trivial | rfl)]
          exact ⟨rfl, HBR.out.trans (((Below.refl _ _).alloc hzr _).trans (hb1.mono (Nat.le_trans hzr (by simp))))⟩
        · go_wp2_with (go_at_call 36; refine (HV.out _).mono ?_; rintro e w' ⟨rfl, hb1⟩)
          exact ⟨⟨k + 1, by omega, by go_num, by rw [HTS.out, HA.out]; rfl, HBR.out.trans (((Below.refl _ _).alloc hzr _).trans (hb1.mono (Nat.le_trans hzr (by simp))))⟩, by simp [intOf]; omega⟩
      · obtain rfl : k = N := by omega
        go_wp2_with fail
        go_ret
        have e1 : L.take k = L := List.take_of_length_le (Nat.le_of_eq HN.out)
        have e2 := HA.out
        rw [e1] at e2
        rw [e2]
        exact ⟨rfl, HBR.out⟩
  · have hi8 : (8 : Int) < (N : Int) := by omega
    rw [decide_eq_false h8, Bool.and_false, Bool.false_and]
    go_enter Tryd.func29, Tryd.ntmps29
    go_wp2_with (first
      | (go_at_call 35; refine (H1.out _).mono ?_; rintro e w' ⟨rfl, hw'⟩; rw [hw']; clear hw' w')
      | (go_at_call 55; refine (H2.out _).mono ?_; rintro e w' ⟨rfl, hw'⟩; rw [hw']; clear hw' w'))
    go_ret
    exact ⟨rfl, HB.out⟩
end Go.Proofs.YtabmdbhbbmnkdaaDoor
