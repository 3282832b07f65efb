/-
  Disks of extents: opening a disk has one outcome on both sides.
-/
import Derived.Test.YtjbpibapbonkpaaGreatDoorXhT
import Derived.Lib.Join
namespace Go.Proofs.YtjbpibapbonkpaaGreatDoor
open Go Go.ChangeShapes Go.WideShapes Go.ChangeAt Go.RowKit lib
set_option linter.unusedVariables false
set_option linter.unusedSimpArgs false
set_option maxRecDepth 100000
/-- a disk of extents in memory: its layout at p, its bytes at g -/
structure XW (w : World) (p g n z E t N c : Nat) (u : Nat → UInt8) : Prop where
  lay : Rw w p 65 #[.int .i64 n, .int .i64 z, .int .i64 E, .int .i64 t, .slice (some ⟨g, 0, none⟩) N c]
  row : BRow w 5 g N u
  ne : p ≠ g
section
variable {w w' : World} {p g n z E t N c : Nat} {u : Nat → UInt8}
theorem XW.c0 (h : XW w p g n z E t N c u) : w.cell? ⟨p, 0, none⟩ = some (.int .i64 n) := h.lay.cell 0
theorem XW.c1 (h : XW w p g n z E t N c u) : w.cell? ⟨p, 1, none⟩ = some (.int .i64 z) := h.lay.cell 1
theorem XW.c2 (h : XW w p g n z E t N c u) : w.cell? ⟨p, 2, none⟩ = some (.int .i64 E) := h.lay.cell 2
theorem XW.c3 (h : XW w p g n z E t N c u) : w.cell? ⟨p, 3, none⟩ = some (.int .i64 t) := h.lay.cell 3
theorem XW.c4 (h : XW w p g n z E t N c u) : w.cell? ⟨p, 4, none⟩ = some (.slice (some ⟨g, 0, none⟩) N c) := h.lay.cell 4
theorem XW.below (h : XW w p g n z E t N c u) (hb : Below w.heap.size w w') : XW w' p g n z E t N c u := ⟨h.lay.below hb h.lay.lt, h.row.below hb h.row.lt, h.ne⟩
theorem XW.drew (h : XW w p g n z E t N c u) : XW w.drew p g n z E t N c u := ⟨h.lay.drew, h.row.drew, h.ne⟩
theorem XW.drewN (h : XW w p g n z E t N c u) (k : Nat) : XW (w.drewN k) p g n z E t N c u := ⟨h.lay.drewN k, h.row.drewN k, h.ne⟩
theorem XW.far (h : XW w p g n z E t N c u) {q : Addr} (hp : p ≠ q.block) (hg : g ≠ q.block) (x : Value) : XW (w.setCell q x) p g n z E t N c u := ⟨h.lay.far hp x, h.row.far hg x, h.ne⟩
theorem XW.grown {row : Option Nat} (h : XW w p g n z E t N c u) (hb : w.grownBy w' row) (hp : row = none ∨ row ≠ some p) (hg : some g ≠ row) : XW w' p g n z E t N c u :=
  ⟨(hb.block p h.lay.lt (fun e => hp.elim (fun h0 => by rw [h0] at e; cases e) (fun h1 => h1 e.symm))).trans h.lay, h.row.grown hb hg, h.ne⟩
end
/-- an opened disk: the record behind p -/
def OpenX (w w' : World) (p n z : Nat) (s : Nat → ByteArray) : Prop :=
  ∃ g c, XW w' p g n z (entsX n) (dataX n z) (n * z) c (joinU z s) ∧ n * z ≤ c ∧ Below w.heap.size w w' ∧ w.heap.size ≤ p ∧ w.heap.size ≤ g
def opensX (n : Nat) (s : Nat → ByteArray) : Prop := ShapeS 8 n s ∧ s 0 = hdrX n (s 0).size
/-- how opening a disk ends -/
def XOut (r : Ending) (w w' : World) (n : Nat) (s : Nat → ByteArray) : Prop :=
  (opensX n s → ∃ p, r = .returned (.tuple #[.pointer (some ⟨p, 0, none⟩), .bool true]) ∧ OpenX w w' p n (s 0).size s) ∧
  (¬ opensX n s → r = .returned (.tuple #[.pointer none, .bool false]) ∧ Below w.heap.size w w')
theorem openX_shape {w : World} {B n c : Nat} {A : Option Addr} {s : Nat → ByteArray} (hs : Sl w B A n (fun i => .string (s i))) (hsz : ∀ i, i < n → (s i).size ≤ 9223372036854775807) (hn : n ≤ 9223372036854775807) (h : ¬ ShapeS 8 n s) :
    Calls Tryz.prog 20 #[.slice A n c] w fun e w' => e = .returned (.tuple #[.pointer none, .bool false]) ∧ w = w' := by
  go_enter Tryz.func20, Tryz.ntmps20
  go_wp2_with (go_at_call 36; refine (isBlocks_any hs hsz hn (l := 8) (by omega) false (by simpa using h)).mono ?_; rintro e w' ⟨rfl, rfl⟩)
  go_ret2
  exact ⟨rfl, rfl⟩
set_option maxHeartbeats 8000000 in
theorem openX_any {w : World} {n c z : Nat} {A : Option Addr} {s : Nat → ByteArray} (hs : Sl w w.heap.size A n (fun i => .string (s i))) (hn : n ≤ c) (h : ShapeS 8 n s) (hz : (s 0).size = z) :
    Calls Tryz.prog 20 #[.slice A n c] w fun e w' => (s 0 = hdrX n z → ∃ p, e = .returned (.tuple #[.pointer (some ⟨p, 0, none⟩), .bool true]) ∧ OpenX w w' p n z s) ∧
      (s 0 ≠ hdrX n z → e = .returned (.tuple #[.pointer none, .bool false]) ∧ Below w.heap.size w w') := by
  have hlo := h.lo
  have hhi := h.hi
  have hzs := h.sz
  rw [hz] at hzs
  have hlay : LayOk n z := ⟨hlo, hhi, hzs⟩
  have hz8 : 8 ≤ z := by omega
  have hz32 : z ≤ 32 := by omega
  have hall : ∀ i, i < n → (s i).size = z := fun i hi => by rw [h.all i hi, hz]
  have hI := Lib.hid (fun w' (hs : Sl w' w'.heap.size A n (fun i => .string (s i))) => isBlocks_any (c := c) hs (fun i hi => by rw [hall i hi]; omega) (by omega) (l := 8) (by omega) true (by simpa using h))
  obtain ⟨bk, o, rfl, hbk, hc0⟩ := hs 0 (by omega)
  dsimp only at hc0
  rw [Nat.add_zero] at hc0
  have LS := Lib.hid (fun w' => extentLayout_any n z w' hlay)
  have LH := Lib.hid (fun w' : World => extentHeader_any n z (dataX n z) w' hhi hz8 hz32)
  have hJl : (Lib.join (((List.range n).map s).map (·.data.toList)) (ByteArray.data ⟨#[]⟩).toList) = (List.range (n * z)).map (joinU z s) := by
    rw [show (ByteArray.data ⟨#[]⟩).toList = ([] : List UInt8) from rfl, join_flat, List.map_map]
    exact join_bytes n hall
  obtain ⟨J, hJ⟩ : ∃ J : ByteArray, J = ⟨((List.range (n * z)).map (joinU z s)).toArray⟩ := ⟨_, rfl⟩
  have hJz : J.size = n * z := by rw [hJ]; simp [ByteArray.size]
  have hJb : ∀ i, i < n * z → byteAt J i = joinU z s i := fun i hi => by
    unfold byteAt
    rw [hJ]
    simp [List.getD_eq_getElem?_getD, hi]
  have hJN : n * z ≤ 4096 := Nat.mul_le_mul hhi hz32
  have LJ := Lib.hid (fun (w' : World) (hk : ∀ b o, b < w.heap.size → w'.cell? ⟨b, o, none⟩ = w.cell? ⟨b, o, none⟩) (hw : w.heap.size ≤ w'.heap.size) =>
    Tryz.strings_Join bk o c ((List.range n).map s) ⟨#[]⟩ w' (fun j x hx => by
      have hj : j < n := by have := (List.getElem?_eq_some_iff.1 hx).1; simpa using this
      obtain ⟨b', o', e', hb', hc'⟩ := hs j hj
      simp only [Option.some.injEq, Addr.mk.injEq, and_true] at e'
      obtain ⟨rfl, rfl⟩ := e'
      have hx' : s j = x := by simpa [hj] using hx
      rw [hk _ _ hb', hc', ← hx']) (Nat.lt_of_lt_of_le hbk hw) (by simp; omega) (by simp; omega) (by rw [hJl]; simp; omega))
  rw [hJl, ← hJ] at LJ
  have HR0 : s 0 = hdrX n z ∨ s 0 ≠ hdrX n z := Classical.em _
  clear hJl hlay h
  unfold OpenX
  generalize entsX n = e0 at *
  generalize dataX n z = t at *
  generalize hdrX n z = H at *
  generalize joinU z s = U at *
  simp only [List.length_map, List.length_range] at LJ
  obtain ⟨N, hN⟩ : ∃ N, n * z = N := ⟨_, rfl⟩
  rw [hN] at hJz hJb hJN ⊢
  generalize s 0 = s0 at *
  have HJz := Lib.hid hJz
  have HJb := Lib.hid hJb
  have HALL := Lib.hid hall
  have HR := Lib.hid HR0
  clear hJ hN hJz hJb hall HR0 hzs
  unfold layX at LS LH
  go_enter Tryz.func20, Tryz.ntmps20
  go_upto_region 3 with (go_at_call 36; refine (hI.out _ hs).mono ?_; rintro e w' ⟨rfl, rfl⟩)
  go_cut [4] (fun s4 wx => ∃ q, s4 = .pointer (some ⟨q, 0, none⟩) ∧ Rw wx q 34 #[.int .i64 n, .int .i64 z, .int .i64 e0, .int .i64 t] ∧ Below w.heap.size w wx ∧ w.heap.size ≤ q)
  case first =>
    clear LH LJ hI HJz HJb HALL HR hs hJN hz8 hz32
    have hn0 : 0 < n := by omega
    go_region_law (first
      | (go_simp; go_at_call 38; refine (sizeS_any _ n c _ (by omega)).mono ?_; rintro e w' ⟨rfl, rfl⟩)
      | (go_simp; go_at_call 41; refine (LS.out _).mono ?_; rintro e1 w1 ⟨rfl, hb1⟩; first
        | (have hr1 : Rw w1 w.heap.size 34 #[.int .i64 0, .int .i64 0, .int .i64 0, .int .i64 0] := (Rw.new w _ _).drew.below hb1 (by show w.heap.size < (w.alloc _).heap.size; simp)
           have k0 := hr1.cell 0
           have k1 := hr1.cell 1
           have k2 := hr1.cell 2
           have k3 := hr1.cell 3
           have f0 := hr1.frozen 0
           have f1 := hr1.frozen 1
           have f2 := hr1.frozen 2
           have f3 := hr1.frozen 3)
        | skip))
    all_goals
      go_wp2_with fail
      go_meet
      first
      | exact ⟨_, rfl, (((hr1.set 0 _).set 1 _).set 2 _).set 3 _, (((((((Below.refl _ _).alloc (Nat.le_refl _) _).drew.trans (hb1.mono (by show w.heap.size ≤ (w.alloc _).heap.size; simp))).setCell (p := ⟨w.heap.size, 0, none⟩) (Nat.le_refl _) _).setCell (p := ⟨w.heap.size, 1, none⟩) (Nat.le_refl _) _).setCell (p := ⟨w.heap.size, 2, none⟩) (Nat.le_refl _) _).setCell (p := ⟨w.heap.size, 3, none⟩) (Nat.le_refl _) _), Nat.le_refl _⟩
      | exact ⟨_, rfl, Rw.new w1 _ _, ((Below.refl _ _).drew.trans hb1).alloc hb1.size _, hb1.size⟩
  case rest =>
    obtain ⟨q, rfl, HR1, HB1, hq⟩ := hcut
    have k0 := HR1.cell 0
    have k1 := HR1.cell 1
    have k2 := HR1.cell 2
    have k3 := HR1.cell 3
    have d0 : wc.cell? ⟨bk, o, none⟩ = some (.string s0) := (HB1.cell (p := ⟨bk, o, none⟩) hbk).trans hc0
    go_upto_region 4 with fail
    go_cut [20] (fun s20 wx => s20 = .bool (!(s0.toList == H.toList)) ∧ Rw wx q 34 #[.int .i64 n, .int .i64 z, .int .i64 e0, .int .i64 t] ∧ Below w.heap.size w wx)
    case first =>
      go_region_with (go_at_call 42; refine (LH.out _).mono ?_; rintro e1 w1 ⟨rfl, hb1⟩; have d1 : w1.cell? ⟨bk, o, none⟩ = some (.string s0) := (hb1.cell (p := ⟨bk, o, none⟩) (Nat.lt_of_lt_of_le hbk HB1.size)).trans d0)
      all_goals
        go_wp2_with fail
        go_meet
        exact ⟨rfl, HR1.drew.below hb1 HR1.drew.lt, HB1.drew.trans (hb1.mono HB1.drew.size)⟩
    case rest =>
      obtain ⟨h20, HR2, HB2⟩ := hcut
      clear k0 k1 k2 k3 d0 HR1 HB1
      rcases HR.out with he | he
      · have hE : (s0.toList == H.toList) = true := str_eq_true he
        rw [hE, Bool.not_true] at h20
        subst h20
        have hJz := HJz.out
        have cvt : ∀ W : World, (convert 9 42 (.string J)).run Tryz.prog W = .ok (.slice (some ⟨W.heap.size, 0, none⟩) J.size (grownCap W J.size 0 5)) (W.drew.alloc (.cells (bytesRow J (grownCap W J.size 0 5)) 5 ((bytesRow J (grownCap W J.size 0 5)).size, (bytesRow J (grownCap W J.size 0 5)).size + 1))) :=
          fun W => run_bytes_of_string W 9 42 5 J Tryz.underlying9 Tryz.underlying42 Tryz.underlying5
        have gc : ∀ W : World, N ≤ grownCap W N 0 5 := fun W => grownCap_ge W N 0 5
        have k0 := HR2.cell 0
        have k1 := HR2.cell 1
        have k2 := HR2.cell 2
        have k3 := HR2.cell 3
        have HE := Lib.hid he
        clear he
        go_wp2_with fail
        go_region_law (go_simp; go_at_call 40; refine (LJ.out _ (fun b o hb => (HB2.drew.cell (p := ⟨b, o, none⟩) hb)) HB2.drew.size).mono ?_; rintro e1 w1 ⟨rfl, hb1⟩; have HR3 := HR2.drew.below hb1 HR2.drew.lt; have hql := HR3.lt; have hqn : q ≠ w1.heap.size := Nat.ne_of_lt hql; have m0 := HR3.cell 0; have m1 := HR3.cell 1; have m2 := HR3.cell 2; have m3 := HR3.cell 3)
        all_goals
          have hrow := BRow.ofBytes w1 5 J (grownCap w1 N 0 5)
          rw [hJz] at hrow
          have hrow2 := (hrow.congr (fun i hi => HJb.out i hi)).drew
          have e3 : ((w1.alloc (.cells (bytesRow J (grownCap w1 N 0 5)) 5 ((bytesRow J (grownCap w1 N 0 5)).size, (bytesRow J (grownCap w1 N 0 5)).size + 1))).drew).heap.size = w1.heap.size + 1 := World.size_alloc _ _
          have hlay := Rw.new ((w1.alloc (.cells (bytesRow J (grownCap w1 N 0 5)) 5 ((bytesRow J (grownCap w1 N 0 5)).size, (bytesRow J (grownCap w1 N 0 5)).size + 1))).drew) 65 #[.int .i64 n, .int .i64 z, .int .i64 e0, .int .i64 t, .slice (some ⟨w1.heap.size, 0, none⟩) N (grownCap w1 N 0 5)]
          rw [e3] at hlay
          have HC : XW _ (w1.heap.size + 1) w1.heap.size n z e0 t N (grownCap w1 N 0 5) U := ⟨hlay, hrow2.alloc _, by omega⟩
          have HB3 := HB2.drew.trans (hb1.mono HB2.drew.size)
          have HB4 : Below w.heap.size w (((w1.alloc (.cells (bytesRow J (grownCap w1 N 0 5)) 5 ((bytesRow J (grownCap w1 N 0 5)).size, (bytesRow J (grownCap w1 N 0 5)).size + 1))).drew).alloc (.cells #[.int .i64 n, .int .i64 z, .int .i64 e0, .int .i64 t, .slice (some ⟨w1.heap.size, 0, none⟩) N (grownCap w1 N 0 5)] 65)) :=
            (HB3.alloc HB3.size _).drew.alloc (by rw [e3]; have := HB3.size; omega) _
          have HS3 := HB3.size
          clear HR3
          go_wp2_with fail
          go_ret2
          exact ⟨fun _ => ⟨_, rfl, _, _, HC, gc w1, HB4, by omega, HS3⟩, fun h => absurd HE.out h⟩
      · have hE : (s0.toList == H.toList) = false := str_eq_false he
        rw [hE, Bool.not_false] at h20
        subst h20
        have HE := Lib.hid he
        clear he
        go_wp2_with fail
        go_ret2
        exact ⟨fun h => absurd h HE.out, fun _ => ⟨rfl, HB2⟩⟩
theorem implOpenX {w : World} {n c : Nat} {A : Option Addr} {s : Nat → ByteArray} (hs : Sl w w.heap.size A n (fun i => .string (s i))) (hsz : ∀ i, i < n → (s i).size ≤ 9223372036854775807) (hn : n ≤ c) (hn2 : n ≤ 9223372036854775807) :
    Calls Tryz.prog 20 #[.slice A n c] w fun r w' => XOut r w w' n s := by
  by_cases h : ShapeS 8 n s
  · refine (openX_any hs hn h rfl).mono fun r w' ⟨h1, h2⟩ => ⟨fun ho => h1 ho.2, fun ho => ?_⟩
    exact h2 fun he => ho ⟨h, he⟩
  · refine (openX_shape hs hsz hn2 h).mono fun r w' ⟨h1, h2⟩ => ⟨fun ho => absurd ho.1 h, fun _ => ?_⟩
    exact ⟨h1, h2 ▸ Below.refl _ _⟩
end Go.Proofs.YtjbpibapbonkpaaGreatDoor
