/-
  Disks of extents: an entry is set: both sides.
-/
import Derived.Test.YtmgcaiilocifbaaXdT
import Derived.Test.YtmgcaiilocifbaaEntC
import Derived.Deep.DeepCutAuto
namespace Go.Proofs.Ytmgcaiilocifbaa
open Go Go.ChangeShapes Go.WideShapes Go.ChangeAt Go.RowKit lib
set_option linter.unusedVariables false
set_option linter.unusedSimpArgs false
set_option maxRecDepth 100000
theorem XW.puts {w : World} {p g n z E t N c : Nat} {u : Nat → UInt8} (h : XW w p g n z E t N c u) (o : Nat) (l : List UInt8) : XW (w.setCells g o (l.map fun x => Value.int .u8 (x.toNat : Int))) p g n z E t N c (putU u o l) :=
  ⟨(heap_setCells_other h.ne _ _ _).trans h.lay, BRow.setCells _ _ _ _ h.row, h.ne⟩
open Classical in
/-- why an entry is not set -/
noncomputable def setXCode (n : Nat) (s : Nat → ByteArray) (k : Int) (e : XE) : Int := if opensX n s then (if 0 ≤ k ∧ k < (entsX n : Int) then (if e.ok (s 0).size then 0 else 1) else 2) else 7
theorem setX_zero {n : Nat} {s : Nat → ByteArray} {k : Int} {e : XE} (h : setXCode n s k e = 0) : opensX n s ∧ (0 ≤ k ∧ k < (entsX n : Int)) ∧ e.ok (s 0).size := by
  unfold setXCode at h
  split at h
  · rename_i h1
    split at h
    · rename_i h2
      split at h
      · rename_i h3; exact ⟨h1, h2, h3⟩
      · cases h
    · cases h
  · cases h
set_option maxHeartbeats 4000000 in
theorem implSetX_ok {w : World} {n c k ce : Nat} {A Ae : Option Addr} {s : Nat → ByteArray} (e : XE) (hs : Sl w w.heap.size A n (fun i => .string (s i))) (hsz : ∀ i, i < n → (s i).size ≤ 9223372036854775807) (hn : n ≤ c) (hn2 : n ≤ 9223372036854775807) (ho : opensX n s)
    (he : e.ok (s 0).size) (hk : k < entsX n) (hnm : e.nm.size ≤ 9223372036854775807) (hse : Sl w w.heap.size Ae e.bl.length (fun i => .int .i64 (e.bl.getD i 0))) :
    Calls Try.prog 9 #[.slice A n c, .int .i64 k, e.val Ae ce] w fun r w' => ∃ A2 c2, r = .returned (.tuple #[.slice A2 n c2, .int .i64 0]) ∧ w'.ownsRow w.heap.size 9 1 (.slice A2 n c2) n ((List.range n).map fun i => .string (blkOf (s 0).size (putX (s 0).size (joinU (s 0).size s) k e) i)) ∧ Below w.heap.size w w' := by
  obtain ⟨w0, hw0⟩ : ∃ w0, w.alloc (.cells #[.int .i64 e.st, .string e.nm, .int .i64 e.no, .int .i64 e.tl, .slice Ae e.bl.length ce] 31) = w0 := ⟨_, rfl⟩
  have hb0 : Below w.heap.size w w0 := by rw [← hw0]; exact (Below.refl _ _).alloc (Nat.le_refl _) _
  have hr0 : Rw w0 w.heap.size 31 #[.int .i64 e.st, .string e.nm, .int .i64 e.no, .int .i64 e.tl, .slice Ae e.bl.length ce] := by rw [← hw0]; exact Rw.new _ _ _
  have hs0 : Sl w0 w0.heap.size A n (fun i => .string (s i)) := (hs.below hb0).more hb0.size
  have hse0 : Sl w0 w0.heap.size Ae e.bl.length (fun i => .int .i64 (e.bl.getD i 0)) := (hse.below hb0).more hb0.size
  have HO := Lib.hid (implOpenX hs0 hsz hn hn2)
  obtain ⟨f1, f2, f3, f4, f5, f6, f7, f8, f9⟩ := shapeX ho
  have f10 := f8 k hk
  obtain ⟨z, hz⟩ : ∃ z, (s 0).size = z := ⟨_, rfl⟩
  rw [hz] at f2 f3 f6 f10 he ⊢
  have HZ := Lib.hid hz
  have HOP := Lib.hid ho
  have HE := Lib.hid he
  have hl4 := XE.ok_len he
  have HB0 := Lib.hid hb0
  have HSE := Lib.hid hse0
  have HR0 := Lib.hid hr0
  have HW := Lib.hid hw0
  have hv1 : (decide ((0 : Int) ≤ (k : Int)) && decide ((k : Int) ≤ (entsX n : Int) - 1)) = true := by simp; omega
  obtain ⟨at', hat⟩ : ∃ a, z + k * 16 = a := ⟨_, rfl⟩
  have HAT := Lib.hid hat
  have hq0 := hr0.lt
  unfold putX
  rw [hat] at f10 ⊢
  unfold XE.val
  clear ho hs hsz hz he f1 f8 f9 hb0 hr0 hs0 hse hse0 hat
  go_enter Try.func9, Try.ntmps9
  go_upto_region 1 with fail
  try rw [hw0]
  clear hw0
  go_upto_region 4 with (go_at_call 22; refine HO.out.mono ?_; rintro r w1 ⟨h1, _⟩; obtain ⟨p, rfl, ow⟩ := h1 HOP.out; rw [HZ.out] at ow; obtain ⟨g, cc, hx, hcap, hb1, hp, hg⟩ := ow)
  have y2 := hx.c2
  have hr1 := HR0.out.below hb1 hq0
  have t0 := hr1.cell 0
  have t1 := hr1.cell 1
  have t2 := hr1.cell 2
  have t3 := hr1.cell 3
  have t4 := hr1.cell 4
  have HX := Lib.hid hx
  have HR1 := Lib.hid hr1
  have HB1 := Lib.hid hb1
  have hz1 := hb1.size
  have hpl := hx.lay.lt
  clear hx hr1 hb1
  go_upto_region 8 with (first
    | (go_at_call 23; refine (within_any _ _ _ _).mono ?_; rw [hv1]; rintro e' w' ⟨rfl, rfl⟩)
    | (go_at_call 24; refine (implValidX_any p z e Ae ce _ true (by simp [HE.out]) hnm (by omega) hpl HX.out.c1 ((HSE.out.below HB1.out).more hz1)).mono ?_; rintro e2 w2 ⟨rfl, hb2⟩))
  have hx2 := HX.out.below hb2
  have hB2 : Below w0.heap.size w0 w2 := HB1.out.trans (hb2.mono hz1)
  have hr2 := HR1.out.below hb2 HR1.out.lt
  have hse2 := (HSE.out.below hB2).more hB2.size
  have HX2 := Lib.hid hx2
  have HB2 := Lib.hid hB2
  have HPE := Lib.hid (fun (W : World) (hW : Below w2.heap.size w2 W) => implPutXE (z := z) (by omega) e HE.out Ae ce W ((hse2.below hW).more hW.size))
  have u0 := hr2.cell 0
  have u1 := hr2.cell 1
  have u2 := hr2.cell 2
  have u3 := hr2.cell 3
  have u4 := hr2.cell 4
  unfold XE.val at HPE
  clear hx2 hB2 hr2 hse2 hb2 t0 t1 t2 t3 t4 y2
  have hpe1 := HPE.out w2.drew (Below.refl _ _).drew
  have hpe2 := HPE.out w2.drew.drew (Below.refl _ _).drew.drew
  have HPE1 := Lib.hid hpe1
  have HPE2 := Lib.hid hpe2
  have heb1 := implEntryBytesX_any k at' HX2.out.drew HAT.out (by omega) (by omega) hcap (by omega)
  have HEB1 := Lib.hid heb1
  clear hpe1 hpe2 HPE heb1
  go_region_law (first
    | (go_simp; go_at_call 25; ((with_reducible refine HEB1.out.mono ?_); rintro e3 w3 ⟨rfl, rfl⟩))
    | (go_simp; go_at_call 26; ((with_reducible refine HPE2.out.mono ?_); rintro e4 w4 ⟨g2, rfl, hb, hg2, hb4⟩; have HX4 := HX2.out.drew.drew.below hb4; have HB4 := HB2.out.drew.drew.trans (hb4.mono HB2.out.drew.drew.size)))
    | (go_simp; go_at_call 26; ((with_reducible refine HPE1.out.mono ?_); rintro e4 w4 ⟨g2, rfl, hb, hg2, hb4⟩; have HX4 := HX2.out.drew.below hb4; have HB4 := HB2.out.drew.trans (hb4.mono HB2.out.drew.size)))
    | (go_simp; go_at_call 25; ((with_reducible refine (implEntryBytesX_any k at' HX4.drew HAT.out (by omega) (by omega) hcap (by omega)).mono ?_); rintro e3 w3 ⟨rfl, rfl⟩; replace hb := hb.drew; replace HX4 := HX4.drew; replace HB4 := HB4.drew))
    | (refine step_copy_bytes rfl (.tmp 35) (.tmp 37) 51 51 rfl 5 Try.underlying51 size8 g at' 16 (cc - at') (by rfl) g2 16 16 e.byte (by rfl) (by omega) hb (fun j hj => by rw [HX4.row.cell (by omega)]; rfl) (fun j hj => HX4.row.frozen (by omega)) ?_))
  all_goals
    have HX5 := HX4.puts at' ((List.range 16).map e.byte)
    have hg0 : w0.heap.size ≤ g := hg
    have hB5 := below_setCells hg0 (((List.range 16).map e.byte).map fun x => Value.int .u8 (x.toNat : Int)) at' _ HB4
    go_wp2_with (go_at_call 27; refine (implDiskX_any HX5 rfl f4 f3 (by omega) hcap).mono ?_; rintro r w6 ⟨A2, c2, rfl, ho2, hb6⟩)
    go_ret2
    have hB6 := HB0.out.trans ((hB5.trans (hb6.mono hB5.size)).mono HB0.out.size)
    exact ⟨A2, c2, rfl, own_base ho2 (Nat.le_trans HB0.out.size hB5.size), hB6⟩
theorem implSetX_bad {w : World} {n c ce : Nat} {A Ae : Option Addr} {s : Nat → ByteArray} (k : Int) (e : XE) (hs : Sl w w.heap.size A n (fun i => .string (s i))) (hsz : ∀ i, i < n → (s i).size ≤ 9223372036854775807) (hn : n ≤ c) (hn2 : n ≤ 9223372036854775807) (hc : setXCode n s k e ≠ 0)
    (hnm : e.nm.size ≤ 9223372036854775807) (hlen : e.bl.length ≤ 1048576) (hse : Sl w w.heap.size Ae e.bl.length (fun i => .int .i64 (e.bl.getD i 0))) :
    Calls Try.prog 9 #[.slice A n c, .int .i64 k, e.val Ae ce] w fun r w' => r = .returned (.tuple #[.slice none 0 0, .int .i64 (setXCode n s k e)]) ∧ Below w.heap.size w w' := by
  obtain ⟨w0, hw0⟩ : ∃ w0, w.alloc (.cells #[.int .i64 e.st, .string e.nm, .int .i64 e.no, .int .i64 e.tl, .slice Ae e.bl.length ce] 31) = w0 := ⟨_, rfl⟩
  have hb0 : Below w.heap.size w w0 := by rw [← hw0]; exact (Below.refl _ _).alloc (Nat.le_refl _) _
  have hr0 : Rw w0 w.heap.size 31 #[.int .i64 e.st, .string e.nm, .int .i64 e.no, .int .i64 e.tl, .slice Ae e.bl.length ce] := by rw [← hw0]; exact Rw.new _ _ _
  have hs0 : Sl w0 w0.heap.size A n (fun i => .string (s i)) := (hs.below hb0).more hb0.size
  have hse0 : Sl w0 w0.heap.size Ae e.bl.length (fun i => .int .i64 (e.bl.getD i 0)) := (hse.below hb0).more hb0.size
  have HO := Lib.hid (implOpenX hs0 hsz hn hn2)
  have HB0 := Lib.hid hb0
  have HSE := Lib.hid hse0
  have HR0 := Lib.hid hr0
  have hq0 := hr0.lt
  by_cases ho : opensX n s
  · obtain ⟨f1, f2, f3, f4, f5, f6, f7, f8, f9⟩ := shapeX ho
    have HOP := Lib.hid ho
    by_cases hk : 0 ≤ k ∧ k < (entsX n : Int)
    · have he : ¬ e.ok (s 0).size := fun he => hc (by unfold setXCode; rw [if_pos ho, if_pos hk, if_pos he])
      have hcode : setXCode n s k e = 1 := by unfold setXCode; rw [if_pos ho, if_pos hk, if_neg he]
      have hv1 : (decide ((0 : Int) ≤ k) && decide (k ≤ (entsX n : Int) - 1)) = true := by simp; omega
      have HE := Lib.hid he
      rw [hcode]
      unfold XE.val
      obtain ⟨z, hz⟩ : ∃ z, (s 0).size = z := ⟨_, rfl⟩
      rw [hz] at HE f2 f3 f6
      have HZ := Lib.hid hz
      clear ho hs hsz he hz f1 f8 f9 hb0 hr0 hs0 hse hse0 hcode hc
      go_enter Try.func9, Try.ntmps9
      go_upto_region 1 with fail
      try rw [hw0]
      clear hw0
      go_upto_region 4 with (go_at_call 22; refine HO.out.mono ?_; rintro r w1 ⟨h1, _⟩; obtain ⟨p, rfl, ow⟩ := h1 HOP.out; rw [HZ.out] at ow; obtain ⟨g, cc, hx, hcap, hb1, hp, hg⟩ := ow)
      have y2 := hx.c2
      have hr1 := HR0.out.below hb1 hq0
      have t0 := hr1.cell 0
      have t1 := hr1.cell 1
      have t2 := hr1.cell 2
      have t3 := hr1.cell 3
      have t4 := hr1.cell 4
      have HX := Lib.hid hx
      have HB1 := Lib.hid hb1
      have hz1 := hb1.size
      have hpl := hx.lay.lt
      clear hx hr1 hb1
      go_wp2_with (first
        | (go_at_call 23; refine (within_any _ _ _ _).mono ?_; rw [hv1]; rintro e' w' ⟨rfl, rfl⟩)
        | (go_at_call 24; refine (implValidX_any p z e Ae ce _ false (by simp [HE.out]) hnm hlen hpl HX.out.c1 ((HSE.out.below HB1.out).more hz1)).mono ?_; rintro e2 w2 ⟨rfl, hb2⟩))
      go_ret2
      exact ⟨rfl, HB0.out.trans ((HB1.out.trans (hb2.mono hz1)).mono HB0.out.size)⟩
    · have hcode : setXCode n s k e = 2 := by unfold setXCode; rw [if_pos ho, if_neg hk]
      have hv1 : (decide ((0 : Int) ≤ k) && decide (k ≤ (entsX n : Int) - 1)) = false := by
        rw [Bool.eq_false_iff]
        simp only [ne_eq, Bool.and_eq_true, decide_eq_true_eq]
        omega
      rw [hcode]
      unfold XE.val
      obtain ⟨z, hz⟩ : ∃ z, (s 0).size = z := ⟨_, rfl⟩
      have HZ := Lib.hid hz
      clear ho hs hsz hz f1 f8 f9 hb0 hr0 hs0 hse hse0 hcode hc hk
      go_enter Try.func9, Try.ntmps9
      go_upto_region 1 with fail
      try rw [hw0]
      clear hw0
      go_upto_region 4 with (go_at_call 22; refine HO.out.mono ?_; rintro r w1 ⟨h1, _⟩; obtain ⟨p, rfl, ow⟩ := h1 HOP.out; rw [HZ.out] at ow; obtain ⟨g, cc, hx, hcap, hb1, hp, hg⟩ := ow)
      have y2 := hx.c2
      have HB1 := Lib.hid hb1
      clear hx hb1
      go_wp2_with (go_at_call 23; refine (within_any _ _ _ _).mono ?_; rw [hv1]; rintro e' w' ⟨rfl, rfl⟩)
      go_ret2
      exact ⟨rfl, HB0.out.trans (HB1.out.mono HB0.out.size)⟩
  · have hcode : setXCode n s k e = 7 := by unfold setXCode; rw [if_neg ho]
    rw [hcode]
    have HOP := Lib.hid ho
    unfold XE.val
    clear ho hs hsz hb0 hr0 hs0 hse hse0 hcode hc
    go_enter Try.func9, Try.ntmps9
    go_upto_region 1 with fail
    try rw [hw0]
    clear hw0
    go_wp2_with (go_at_call 22; refine HO.out.mono ?_; rintro r w1 ⟨_, h1⟩; obtain ⟨rfl, hb1⟩ := h1 HOP.out)
    go_ret2
    exact ⟨rfl, HB0.out.trans (hb1.mono HB0.out.size)⟩
set_option maxHeartbeats 4000000 in
theorem specSetXTop_ok {w : World} {n c k ce : Nat} {A Ae : Option Addr} {s : Nat → ByteArray} (e : XE) (hs : Sl w w.heap.size A n (fun i => .string (s i))) (hsz : ∀ i, i < n → (s i).size ≤ 9223372036854775807) (hn : n ≤ c) (hn2 : n ≤ 9223372036854775807) (ho : opensX n s)
    (he : e.ok (s 0).size) (hk : k < entsX n) (hnm : e.nm.size ≤ 9223372036854775807) (hse : Sl w w.heap.size Ae e.bl.length (fun i => .int .i64 (e.bl.getD i 0))) :
    Calls Try.prog 6 #[.slice A n c, .int .i64 k, e.val Ae ce] w fun r w' => ∃ A2 c2, r = .returned (.tuple #[.slice A2 n c2, .int .i64 0]) ∧ w'.ownsRow w.heap.size 9 1 (.slice A2 n c2) n ((List.range n).map fun i => .string (blkOf (s 0).size (putX (s 0).size (joinU (s 0).size s) k e) i)) ∧ Below w.heap.size w w' := by
  obtain ⟨w0, hw0⟩ : ∃ w0, w.alloc (.cells #[.int .i64 e.st, .string e.nm, .int .i64 e.no, .int .i64 e.tl, .slice Ae e.bl.length ce] 31) = w0 := ⟨_, rfl⟩
  have hb0 : Below w.heap.size w w0 := by rw [← hw0]; exact (Below.refl _ _).alloc (Nat.le_refl _) _
  have hr0 : Rw w0 w.heap.size 31 #[.int .i64 e.st, .string e.nm, .int .i64 e.no, .int .i64 e.tl, .slice Ae e.bl.length ce] := by rw [← hw0]; exact Rw.new _ _ _
  have hs0 : Sl w0 w0.heap.size A n (fun i => .string (s i)) := (hs.below hb0).more hb0.size
  have hse0 : Sl w0 w0.heap.size Ae e.bl.length (fun i => .int .i64 (e.bl.getD i 0)) := (hse.below hb0).more hb0.size
  have HO := Lib.hid (specOpenX (c := c) hs0 hsz)
  obtain ⟨f1, f2, f3, f4, f5, f6, f7, f8, f9⟩ := shapeX ho
  have f10 := f8 k hk
  obtain ⟨z, hz⟩ : ∃ z, (s 0).size = z := ⟨_, rfl⟩
  rw [hz] at f2 f3 f6 f9 f10 he ⊢
  have hall : (List.range n).map (fun i => Value.string (s i)) = (List.range n).map fun i => Value.string (blkOf z (joinU z s) i) := by
    apply List.map_congr_left
    intro i hi
    simp only [List.mem_range] at hi
    congr 1
    refine ba_ext (by rw [f9 i hi, blk_size]) fun j hj => ?_
    rw [f9 i hi] at hj
    rw [blk_at hj, joinU_at _ _ hj]
  have HALL := Lib.hid hall
  have HZ := Lib.hid hz
  have HOP := Lib.hid ho
  have HE := Lib.hid he
  have hl4 := XE.ok_len he
  have HB0 := Lib.hid hb0
  have HSE := Lib.hid hse0
  have HS0 := Lib.hid hs0
  have HR0 := Lib.hid hr0
  have hv1 : (decide ((0 : Int) ≤ (k : Int)) && decide ((k : Int) ≤ (entsX n : Int) - 1)) = true := by simp; omega
  have hq0 := hr0.lt
  have hz0 := hb0.size
  unfold XE.val
  clear ho hs hsz hz he f1 f8 f9 hb0 hr0 hs0 hse hse0 hall
  go_enter Try.func6, Try.ntmps6
  go_upto_region 1 with fail
  try rw [hw0]
  clear hw0
  go_upto_region 2 with (go_at_call 16; refine HO.out.mono ?_; rintro r w1 ⟨h1, _⟩; obtain ⟨rfl, hb1⟩ := h1 HOP.out; rw [HZ.out]; unfold layX)
  have hR2 := Rw.new w1 39 #[.int .i64 n, .int .i64 z, .int .i64 (entsX n), .int .i64 (dataX n z)]
  have hB2 := hb1.alloc hb1.size (.cells #[.int .i64 n, .int .i64 z, .int .i64 (entsX n), .int .i64 (dataX n z)] 39)
  obtain ⟨q, hq⟩ : ∃ q, w1.heap.size = q := ⟨_, rfl⟩
  have hqw : w0.heap.size ≤ q := by rw [← hq]; exact hb1.size
  generalize w1.alloc (.cells #[.int .i64 n, .int .i64 z, .int .i64 (entsX n), .int .i64 (dataX n z)] 39) = W2 at *
  rw [hq] at hR2 ⊢
  clear hq hb1
  have x1 := hR2.cell 1
  have x2 := hR2.cell 2
  have hE2 := HR0.out.below hB2 hq0
  have hs2 := (HS0.out.below hB2).more hB2.size
  have hse2 := (HSE.out.below hB2).more hB2.size
  have HR2 := Lib.hid hR2
  have HB2 := Lib.hid hB2
  have HE2 := Lib.hid hE2
  have HS2 := Lib.hid hs2
  have HSE2 := Lib.hid hse2
  have hql := hR2.lt
  have hzz2 := hB2.size
  clear hR2 hB2 hE2 hs2 hse2
  go_upto_region 8 with (first
    | (go_at_call 17; refine (l00InX _ _ _ _).mono ?_; rw [hv1]; rintro e' w' ⟨rfl, hw'⟩; rw [hw']; clear hw' w')
    | (go_at_call 18; refine (specValidX_any w.heap.size z e Ae ce _ true (by simp [HE.out]) hnm (by omega) HE2.out HSE2.out).mono ?_; rintro e' w' ⟨rfl, hw'⟩; rw [hw']; clear hw' w'))
  go_upto_region 9 with (go_at_call 19; refine (specOwnX_any HS2.out (by omega)).mono ?_; rintro r w4 ⟨A4, c4, rfl, ho4, hb4⟩)
  rw [HALL.out] at ho4
  obtain ⟨g, cap4, e1, hgB, hgl⟩ := ho4.form (by omega)
  simp only [Value.slice.injEq] at e1
  obtain ⟨rfl, _, rfl⟩ := e1
  have hz4 := hb4.size
  have HSET := Lib.hid (specSetX_any e HE.out ho4 (by omega) (HR2.out.below hb4 hql) (HE2.out.below hb4 HE2.out.lt) ((HSE2.out.below hb4).more hb4.size) f2 f3 f4 f10)
  have HB4 := Lib.hid hb4
  clear ho4 hb4
  go_wp2_with (go_at_call 20; refine HSET.out.mono ?_; rintro r w8 ⟨rfl, ho8, hg8⟩)
  go_ret2
  have hB4 := HB0.out.trans ((HB2.out.trans (HB4.out.mono hzz2)).mono hz0)
  exact ⟨_, _, rfl, own_base ho8 (Nat.le_trans hz0 hzz2), hB4.grown hg8 hB4.size (fun j hj => by injection hj with hj; omega)⟩
theorem specSetXTop_bad {w : World} {n c ce : Nat} {A Ae : Option Addr} {s : Nat → ByteArray} (k : Int) (e : XE) (hs : Sl w w.heap.size A n (fun i => .string (s i))) (hsz : ∀ i, i < n → (s i).size ≤ 9223372036854775807) (hn : n ≤ c) (hn2 : n ≤ 9223372036854775807) (hc : setXCode n s k e ≠ 0)
    (hnm : e.nm.size ≤ 9223372036854775807) (hlen : e.bl.length ≤ 1048576) (hse : Sl w w.heap.size Ae e.bl.length (fun i => .int .i64 (e.bl.getD i 0))) :
    Calls Try.prog 6 #[.slice A n c, .int .i64 k, e.val Ae ce] w fun r w' => r = .returned (.tuple #[.slice none 0 0, .int .i64 (setXCode n s k e)]) ∧ Below w.heap.size w w' := by
  obtain ⟨w0, hw0⟩ : ∃ w0, w.alloc (.cells #[.int .i64 e.st, .string e.nm, .int .i64 e.no, .int .i64 e.tl, .slice Ae e.bl.length ce] 31) = w0 := ⟨_, rfl⟩
  have hb0 : Below w.heap.size w w0 := by rw [← hw0]; exact (Below.refl _ _).alloc (Nat.le_refl _) _
  have hr0 : Rw w0 w.heap.size 31 #[.int .i64 e.st, .string e.nm, .int .i64 e.no, .int .i64 e.tl, .slice Ae e.bl.length ce] := by rw [← hw0]; exact Rw.new _ _ _
  have hs0 : Sl w0 w0.heap.size A n (fun i => .string (s i)) := (hs.below hb0).more hb0.size
  have hse0 : Sl w0 w0.heap.size Ae e.bl.length (fun i => .int .i64 (e.bl.getD i 0)) := (hse.below hb0).more hb0.size
  have HO := Lib.hid (specOpenX (c := c) hs0 hsz)
  have HB0 := Lib.hid hb0
  have HSE := Lib.hid hse0
  have HR0 := Lib.hid hr0
  have hq0 := hr0.lt
  have hz0 := hb0.size
  by_cases ho : opensX n s
  · have HOP := Lib.hid ho
    by_cases hk : 0 ≤ k ∧ k < (entsX n : Int)
    · have he : ¬ e.ok (s 0).size := fun he => hc (by unfold setXCode; rw [if_pos ho, if_pos hk, if_pos he])
      have hcode : setXCode n s k e = 1 := by unfold setXCode; rw [if_pos ho, if_pos hk, if_neg he]
      have hv1 : (decide ((0 : Int) ≤ k) && decide (k ≤ (entsX n : Int) - 1)) = true := by simp; omega
      have HE := Lib.hid he
      rw [hcode]
      unfold XE.val
      obtain ⟨z, hz⟩ : ∃ z, (s 0).size = z := ⟨_, rfl⟩
      rw [hz] at HE
      have HZ := Lib.hid hz
      have f7 := (layX_data (shapeX ho).1).2.2
      clear ho hs hsz he hb0 hr0 hs0 hse hse0 hcode hc hz
      go_enter Try.func6, Try.ntmps6
      go_upto_region 1 with fail
      try rw [hw0]
      clear hw0
      go_upto_region 2 with (go_at_call 16; refine HO.out.mono ?_; rintro r w1 ⟨h1, _⟩; obtain ⟨rfl, hb1⟩ := h1 HOP.out; rw [HZ.out]; unfold layX)
      have hR2 := Rw.new w1 39 #[.int .i64 n, .int .i64 z, .int .i64 (entsX n), .int .i64 (dataX n z)]
      have hB2 := hb1.alloc hb1.size (.cells #[.int .i64 n, .int .i64 z, .int .i64 (entsX n), .int .i64 (dataX n z)] 39)
      obtain ⟨q, hq⟩ : ∃ q, w1.heap.size = q := ⟨_, rfl⟩
      generalize w1.alloc (.cells #[.int .i64 n, .int .i64 z, .int .i64 (entsX n), .int .i64 (dataX n z)] 39) = W2 at *
      rw [hq] at hR2 ⊢
      clear hq hb1
      have x1 := hR2.cell 1
      have x2 := hR2.cell 2
      have HE2 := Lib.hid (HR0.out.below hB2 hq0)
      have HSE2 := Lib.hid ((HSE.out.below hB2).more hB2.size)
      have HB2 := Lib.hid hB2
      clear hR2 hB2
      go_wp2_with (first
        | (go_at_call 17; refine (l00InX _ _ _ _).mono ?_; rw [hv1]; rintro e' w' ⟨rfl, hw'⟩; rw [hw']; clear hw' w')
        | (go_at_call 18; refine (specValidX_any w.heap.size z e Ae ce _ false (by simp [HE.out]) hnm hlen HE2.out HSE2.out).mono ?_; rintro e' w' ⟨rfl, hw'⟩; rw [hw']; clear hw' w'))
      go_ret2
      exact ⟨rfl, HB0.out.trans (HB2.out.mono hz0)⟩
    · have hcode : setXCode n s k e = 2 := by unfold setXCode; rw [if_pos ho, if_neg hk]
      have f7 := (layX_data (shapeX ho).1).2.2
      have hv1 : (decide ((0 : Int) ≤ k) && decide (k ≤ (entsX n : Int) - 1)) = false := by
        rw [Bool.eq_false_iff]
        simp only [ne_eq, Bool.and_eq_true, decide_eq_true_eq]
        omega
      rw [hcode]
      unfold XE.val
      obtain ⟨z, hz⟩ : ∃ z, (s 0).size = z := ⟨_, rfl⟩
      have HZ := Lib.hid hz
      clear ho hs hsz hb0 hr0 hs0 hse hse0 hcode hc hz hk
      go_enter Try.func6, Try.ntmps6
      go_upto_region 1 with fail
      try rw [hw0]
      clear hw0
      go_upto_region 2 with (go_at_call 16; refine HO.out.mono ?_; rintro r w1 ⟨h1, _⟩; obtain ⟨rfl, hb1⟩ := h1 HOP.out; rw [HZ.out]; unfold layX)
      have hR2 := Rw.new w1 39 #[.int .i64 n, .int .i64 z, .int .i64 (entsX n), .int .i64 (dataX n z)]
      have hB2 := hb1.alloc hb1.size (.cells #[.int .i64 n, .int .i64 z, .int .i64 (entsX n), .int .i64 (dataX n z)] 39)
      obtain ⟨q, hq⟩ : ∃ q, w1.heap.size = q := ⟨_, rfl⟩
      generalize w1.alloc (.cells #[.int .i64 n, .int .i64 z, .int .i64 (entsX n), .int .i64 (dataX n z)] 39) = W2 at *
      rw [hq] at hR2 ⊢
      clear hq hb1
      have x2 := hR2.cell 2
      have HB2 := Lib.hid hB2
      clear hR2 hB2
      go_wp2_with (go_at_call 17; refine (l00InX _ _ _ _).mono ?_; rw [hv1]; rintro e' w' ⟨rfl, hw'⟩; rw [hw']; clear hw' w')
      go_ret2
      exact ⟨rfl, HB0.out.trans (HB2.out.mono hz0)⟩
  · have hcode : setXCode n s k e = 7 := by unfold setXCode; rw [if_neg ho]
    rw [hcode]
    have HOP := Lib.hid ho
    unfold XE.val
    clear ho hs hsz hb0 hr0 hs0 hse hse0 hcode hc
    go_enter Try.func6, Try.ntmps6
    go_upto_region 1 with fail
    try rw [hw0]
    clear hw0
    go_wp2_with (go_at_call 16; refine HO.out.mono ?_; rintro r w1 ⟨_, h1⟩; obtain ⟨rfl, hb1⟩ := h1 HOP.out; unfold layX)
    go_ret2
    exact ⟨rfl, HB0.out.trans ((hb1.alloc hb1.size _).mono hz0)⟩
end Go.Proofs.Ytmgcaiilocifbaa
