/-
  Disks of chains: opening a disk, the program's side.
-/
import Derived.Test.YtjbpibapbonkpaaGreatDoorChainOpen
namespace Go.Proofs.YtjbpibapbonkpaaGreatDoor
open Go Go.ChangeShapes Go.WideShapes Go.ChangeAt Go.RowKit lib
set_option linter.unusedVariables false
set_option maxRecDepth 100000
theorem openChains_shape {w : World} {B n c : Nat} {A : Option Addr} {s : Nat → ByteArray} (hs : Sl w B A n (fun i => .string (s i))) (hsz : ∀ i, i < n → (s i).size ≤ 9223372036854775807) (hn : n ≤ 9223372036854775807) (h : ¬ ShapeS 8 n s) :
    Calls Tryz.prog 19 #[.slice A n c] w fun e w' => e = .returned (.tuple #[.pointer none, .int .i64 1]) ∧ w = w' := by
  go_enter Tryz.func19, Tryz.ntmps19
  go_wp2_with (go_at_call 36; refine (isBlocks_any hs hsz hn (l := 8) (by omega) false (by simpa using h)).mono ?_; rintro e w' ⟨rfl, rfl⟩)
  go_ret2
  exact ⟨rfl, rfl⟩
set_option maxHeartbeats 8000000 in
theorem openChains_any {w : World} {n c z : Nat} {A : Option Addr} {s : Nat → ByteArray} (hs : Sl w w.heap.size A n (fun i => .string (s i))) (hn : n ≤ c) (h : ShapeS 8 n s) (hz : (s 0).size = z) :
    Calls Tryz.prog 19 #[.slice A n c] w fun e w' => (s 0 = hdrS n z → ∃ p, e = .returned (.tuple #[.pointer (some ⟨p, 0, none⟩), .int .i64 0]) ∧ OpenW w w' p n z s) ∧
      (s 0 ≠ hdrS n z → e = .returned (.tuple #[.pointer none, .int .i64 7]) ∧ Below w.heap.size w w') := by
  have hlo := h.lo
  have hhi := h.hi
  have hzs := h.sz
  rw [hz] at hzs
  have hlay : LayOk n z := ⟨hlo, hhi, hzs⟩
  have hz8 : 8 ≤ z := by omega
  have hz32 : z ≤ 32 := by omega
  have hall : ∀ i, i < n → (s i).size = z := fun i hi => by rw [h.all i hi, hz]
  have hI := Lib.hid (fun w' (hs : Sl w' w'.heap.size A n (fun i => .string (s i))) => isBlocks_any (c := c) hs (fun i hi => by rw [hall i hi]; omega) (by omega) (l := 8) (by omega) true (by simpa using h))
  obtain ⟨bk, o, rfl, hbk, hc0⟩ := hs 0 (by omega)
  dsimp only at hc0
  rw [Nat.add_zero] at hc0
  have he : entsN n ≤ 16 := by unfold entsN; omega
  have LS := Lib.hid (fun w' => chainLayout_any n z w' hlay)
  have LH := Lib.hid (fun w' : World => chainHeader_any n z (entsN n) (dirN n z) (dataN n z) w' hhi he hz8 hz32)
  have hJl : (Lib.join (((List.range n).map s).map (·.data.toList)) (ByteArray.data ⟨#[]⟩).toList) = (List.range (n * z)).map (joinU z s) := by
    rw [show (ByteArray.data ⟨#[]⟩).toList = ([] : List UInt8) from rfl, join_flat, List.map_map]
    exact join_bytes n hall
  obtain ⟨J, hJ⟩ : ∃ J : ByteArray, J = ⟨((List.range (n * z)).map (joinU z s)).toArray⟩ := ⟨_, rfl⟩
  have hJz : J.size = n * z := by rw [hJ]; simp [ByteArray.size]
  have hJb : ∀ i, i < n * z → byteAt J i = joinU z s i := fun i hi => by
    unfold byteAt
    rw [hJ]
    simp [List.getD_eq_getElem?_getD, hi]
  have hJN : n * z ≤ 4096 := Nat.mul_le_mul hhi hz32
  have LJ := Lib.hid (fun (w' : World) (hk : ∀ b o, b < w.heap.size → w'.cell? ⟨b, o, none⟩ = w.cell? ⟨b, o, none⟩) (hw : w.heap.size ≤ w'.heap.size) =>
    Tryz.strings_Join bk o c ((List.range n).map s) ⟨#[]⟩ w' (fun j x hx => by
      have hj : j < n := by have := (List.getElem?_eq_some_iff.1 hx).1; simpa using this
      obtain ⟨b', o', e', hb', hc'⟩ := hs j hj
      simp only [Option.some.injEq, Addr.mk.injEq, and_true] at e'
      obtain ⟨rfl, rfl⟩ := e'
      have hx' : s j = x := by simpa [hj] using hx
      rw [hk _ _ hb', hc', ← hx']) (Nat.lt_of_lt_of_le hbk hw) (by simp; omega) (by simp; omega) (by rw [hJl]; simp; omega))
  rw [hJl, ← hJ] at LJ
  have HR0 : s 0 = hdrS n z ∨ s 0 ≠ hdrS n z := Classical.em _
  have HH : hdrS n z = head6 n (entsN n) ++ zerosB (z - 6) := rfl
  rw [← HH] at LH
  clear HH hJl hlay h
  unfold OpenW
  generalize entsN n = e0 at *
  generalize dirN n z = d at *
  generalize dataN n z = t at *
  generalize hdrS n z = H at *
  generalize joinU z s = U at *
  simp only [List.length_map, List.length_range] at LJ
  obtain ⟨N, hN⟩ : ∃ N, n * z = N := ⟨_, rfl⟩
  rw [hN] at hJz hJb hJN ⊢
  generalize s 0 = s0 at *
  have HJz := Lib.hid hJz
  have HJb := Lib.hid hJb
  have HALL := Lib.hid hall
  have HR := Lib.hid HR0
  clear hJ hN hJz hJb hall HR0 hzs
  unfold layV at LS LH
  go_enter Tryz.func19, Tryz.ntmps19
  go_upto_region 3 with (go_at_call 36; refine (hI.out _ hs).mono ?_; rintro e w' ⟨rfl, rfl⟩)
  go_cut [4] (fun s4 wx => ∃ q, s4 = .pointer (some ⟨q, 0, none⟩) ∧ Rw wx q 30 #[.int .i64 n, .int .i64 z, .int .i64 e0, .int .i64 d, .int .i64 t] ∧ Below w.heap.size w wx ∧ w.heap.size ≤ q)
  case first =>
    clear LH LJ hI HJz HJb HALL HR hs he hJN hz8 hz32
    have hn0 : 0 < n := by omega
    go_region_law (first
      | (go_simp; go_at_call 38; refine (sizeS_any _ n c _ (by omega)).mono ?_; rintro e w' ⟨rfl, rfl⟩)
      | (go_simp; go_at_call 37; refine (LS.out _).mono ?_; rintro e1 w1 ⟨rfl, hb1⟩; first
        | (have hr1 : Rw w1 w.heap.size 30 #[.int .i64 0, .int .i64 0, .int .i64 0, .int .i64 0, .int .i64 0] := (Rw.new w _ _).drew.below hb1 (by show w.heap.size < (w.alloc _).heap.size; simp)
           have k0 := hr1.cell 0
           have k1 := hr1.cell 1
           have k2 := hr1.cell 2
           have k3 := hr1.cell 3
           have k4 := hr1.cell 4
           have f0 := hr1.frozen 0
           have f1 := hr1.frozen 1
           have f2 := hr1.frozen 2
           have f3 := hr1.frozen 3
           have f4 := hr1.frozen 4)
        | skip))
    all_goals
      go_wp2_with fail
      go_meet
      first
      | exact ⟨_, rfl, ((((hr1.set 0 _).set 1 _).set 2 _).set 3 _).set 4 _, ((((((((Below.refl _ _).alloc (Nat.le_refl _) _).drew.trans (hb1.mono (by show w.heap.size ≤ (w.alloc _).heap.size; simp))).setCell (p := ⟨w.heap.size, 0, none⟩) (Nat.le_refl _) _).setCell (p := ⟨w.heap.size, 1, none⟩) (Nat.le_refl _) _).setCell (p := ⟨w.heap.size, 2, none⟩) (Nat.le_refl _) _).setCell (p := ⟨w.heap.size, 3, none⟩) (Nat.le_refl _) _).setCell (p := ⟨w.heap.size, 4, none⟩) (Nat.le_refl _) _), Nat.le_refl _⟩
      | exact ⟨_, rfl, Rw.new w1 _ _, ((Below.refl _ _).drew.trans hb1).alloc hb1.size _, hb1.size⟩
  case rest =>
    obtain ⟨q, rfl, HR1, HB1, hq⟩ := hcut
    have k0 := HR1.cell 0
    have k1 := HR1.cell 1
    have k2 := HR1.cell 2
    have k3 := HR1.cell 3
    have k4 := HR1.cell 4
    have d0 : wc.cell? ⟨bk, o, none⟩ = some (.string s0) := (HB1.cell (p := ⟨bk, o, none⟩) hbk).trans hc0
    go_upto_region 4 with fail
    go_cut [20] (fun s20 wx => s20 = .bool (!(s0.toList == H.toList)) ∧ Rw wx q 30 #[.int .i64 n, .int .i64 z, .int .i64 e0, .int .i64 d, .int .i64 t] ∧ Below w.heap.size w wx)
    case first =>
      go_region_with (go_at_call 39; refine (LH.out _).mono ?_; rintro e1 w1 ⟨rfl, hb1⟩; have d1 : w1.cell? ⟨bk, o, none⟩ = some (.string s0) := (hb1.cell (p := ⟨bk, o, none⟩) (Nat.lt_of_lt_of_le hbk HB1.size)).trans d0)
      all_goals
        go_wp2_with fail
        go_meet
        exact ⟨rfl, HR1.drew.below hb1 HR1.drew.lt, HB1.drew.trans (hb1.mono HB1.drew.size)⟩
    case rest =>
      obtain ⟨h20, HR2, HB2⟩ := hcut
      clear k0 k1 k2 k3 k4 d0 HR1 HB1
      rcases HR.out with he | he
      · have hE : (s0.toList == H.toList) = true := str_eq_true he
        rw [hE, Bool.not_true] at h20
        subst h20
        have hJz := HJz.out
        have cvt : ∀ W : World, (convert 9 42 (.string J)).run Tryz.prog W = .ok (.slice (some ⟨W.heap.size, 0, none⟩) J.size (grownCap W J.size 0 5)) (W.drew.alloc (.cells (bytesRow J (grownCap W J.size 0 5)) 5 ((bytesRow J (grownCap W J.size 0 5)).size, (bytesRow J (grownCap W J.size 0 5)).size + 1))) :=
          fun W => run_bytes_of_string W 9 42 5 J Tryz.underlying9 Tryz.underlying42 Tryz.underlying5
        have gc : ∀ W : World, N ≤ grownCap W N 0 5 := fun W => grownCap_ge W N 0 5
        have k0 := HR2.cell 0
        have k1 := HR2.cell 1
        have k2 := HR2.cell 2
        have k3 := HR2.cell 3
        have k4 := HR2.cell 4
        have HE := Lib.hid he
        clear he
        go_wp2_with fail
        go_region_law (go_simp; go_at_call 40; refine (LJ.out _ (fun b o hb => (HB2.drew.cell (p := ⟨b, o, none⟩) hb)) HB2.drew.size).mono ?_; rintro e1 w1 ⟨rfl, hb1⟩; have HR3 := HR2.drew.below hb1 HR2.drew.lt; have hql := HR3.lt; have hqn : q ≠ w1.heap.size := Nat.ne_of_lt hql; have m0 := HR3.cell 0; have m1 := HR3.cell 1; have m2 := HR3.cell 2; have m3 := HR3.cell 3; have m4 := HR3.cell 4)
        all_goals
          have hrow := BRow.ofBytes w1 5 J (grownCap w1 N 0 5)
          rw [hJz] at hrow
          have HC := ChW.made ((w1.alloc (.cells (bytesRow J (grownCap w1 N 0 5)) 5 ((bytesRow J (grownCap w1 N 0 5)).size, (bytesRow J (grownCap w1 N 0 5)).size + 1))).drew) 60 n z e0 d t N (grownCap w1 N 0 5) w1.heap.size (hrow.congr (fun i hi => HJb.out i hi)).drew
          have e3 : ((w1.alloc (.cells (bytesRow J (grownCap w1 N 0 5)) 5 ((bytesRow J (grownCap w1 N 0 5)).size, (bytesRow J (grownCap w1 N 0 5)).size + 1))).drew).heap.size = w1.heap.size + 1 := World.size_alloc _ _
          rw [e3] at HC
          have HB3 := HB2.drew.trans (hb1.mono HB2.drew.size)
          have HB4 : Below w.heap.size w (((w1.alloc (.cells (bytesRow J (grownCap w1 N 0 5)) 5 ((bytesRow J (grownCap w1 N 0 5)).size, (bytesRow J (grownCap w1 N 0 5)).size + 1))).drew).alloc (.cells #[.int .i64 n, .int .i64 z, .int .i64 e0, .int .i64 d, .int .i64 t, .slice (some ⟨w1.heap.size, 0, none⟩) N (grownCap w1 N 0 5)] 60)) :=
            (HB3.alloc HB3.size _).drew.alloc (by rw [e3]; have := HB3.size; omega) _
          have HS3 := HB3.size
          clear HR3
          go_wp2_with fail
          go_ret2
          exact ⟨fun _ => ⟨_, rfl, _, _, HC, gc w1, HB4, by omega, HS3⟩, fun h => absurd HE.out h⟩
      · have hE : (s0.toList == H.toList) = false := str_eq_false he
        rw [hE, Bool.not_false] at h20
        subst h20
        have HE := Lib.hid he
        clear he
        go_wp2_with fail
        go_ret2
        exact ⟨fun h => absurd h HE.out, fun _ => ⟨rfl, HB2⟩⟩
end Go.Proofs.YtjbpibapbonkpaaGreatDoor
