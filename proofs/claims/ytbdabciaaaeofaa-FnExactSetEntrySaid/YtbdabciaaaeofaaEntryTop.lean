/-
  Disks of chains: SetEntry, both sides.
-/
import Derived.Test.YtbdabciaaaeofaaEntryC
namespace Go.Proofs.Ytbdabciaaaeofaa
open Go Go.ChangeShapes Go.WideShapes Go.ChangeAt Go.RowKit lib
set_option linter.unusedVariables false
set_option maxRecDepth 100000
theorem validE_facts {nm : ByteArray} {f l : Int} {us de : Bool} (h : validE nm f l us de) : nm.size ≤ 8 ∧ (0 ≤ f ∧ f ≤ 255) ∧ (0 ≤ l ∧ l ≤ 512) := by
  rcases h with ⟨rfl, rfl, rfl, _, _⟩ | ⟨_, hn, hf, hl⟩
  · exact ⟨by decide, by omega, by omega⟩
  · exact ⟨hn.hi, hf, hl⟩
/-- a disk with an entry stored -/
def setE (n z : Nat) (U : Nat → UInt8) (k : Nat) (nm : ByteArray) (f l : Nat) (us de : Bool) : Nat → UInt8 := putE U (dirN n z * z + k * 12) nm f l us de
theorem fit_facts {n k : Nat} {s : Nat → ByteArray} (h : ShapeS 8 n s) (hk : k < entsN n) : dirN n (s 0).size * (s 0).size + k * 12 + 12 ≤ n * (s 0).size ∧ k ≤ 1024 ∧ n * (s 0).size ≤ 1048576 := by
  have hl : LayOk n (s 0).size := ⟨h.lo, h.hi, h.sz⟩
  have := shape_facts h
  refine ⟨dir_fits hl hk, ?_, by omega⟩
  unfold entsN at hk
  omega
set_option maxHeartbeats 2000000 in
theorem implSetEntry_ok {w : World} {n c : Nat} {A : Option Addr} {s : Nat → ByteArray} (k : Nat) (nm : ByteArray) (f l : Nat) (us de : Bool) (hs : Sl w w.heap.size A n (fun i => .string (s i))) (hsz : ∀ i, i < n → (s i).size ≤ 9223372036854775807) (hn : n ≤ c) (hn2 : n ≤ 9223372036854775807)
    (ho : opens n s) (hk : k < entsN n) (hv : validE nm f l us de) :
    Calls Try.prog 24 #[.slice A n c, .int .i64 k, entV nm f l us de] w fun r w' => ∃ A c, r = .returned (.tuple #[.slice A n c, .int .i64 0]) ∧ w'.ownsRow w.heap.size 9 1 (.slice A n c) n ((List.range n).map fun (i : Nat) => Value.string (blkOf (s 0).size (setE n (s 0).size (joinU (s 0).size s) k nm f l us de) i)) ∧ Below w.heap.size w w' := by
  obtain ⟨hv1, hv2, hv3⟩ := validE_facts hv
  have hs1 : Sl (w.alloc (.cells #[.string nm, .int .i64 f, .int .i64 l, .bool us, .bool de] 41)) (w.alloc (.cells #[.string nm, .int .i64 f, .int .i64 l, .bool us, .bool de] 41)).heap.size A n (fun i => .string (s i)) := (hs.alloc (Nat.le_refl _) _).more (by simp)
  have HO := Lib.hid (implOpen hs1 hsz hn hn2)
  have hf := shape_facts ho.1
  have hft := fit_facts ho.1 hk
  have he16 : entsN n ≤ 16 := by unfold entsN; omega
  obtain ⟨z, hz⟩ : ∃ z, (s 0).size = z := ⟨_, rfl⟩
  rw [hz] at hf hft ⊢
  have HZ := Lib.hid hz
  have HL := Lib.hid ho
  have HV := Lib.hid (fun w : World => implValid_any nm f l us de (by omega) true (by simpa using hv) w)
  have HPE := Lib.hid (fun w : World => implPut_any nm f l us de hv1 (by omega) (by omega) w)
  unfold entV at HV HPE ⊢
  obtain ⟨at', hat⟩ : ∃ a, dirN n z * z + k * 12 = a := ⟨_, rfl⟩
  have hw1 : (decide ((0 : Int) ≤ (k : Int)) && decide ((k : Int) ≤ (entsN n : Int) - 1)) = true := by simp; omega
  unfold setE putE
  rw [hat] at hft ⊢
  have HAT := Lib.hid hat
  clear ho hs hs1 hsz hz hv hat hv2 hv3
  generalize entB nm f l us de = V at *
  go_enter Try.func24, Try.ntmps24
  go_upto_region 8 with (first
    | (go_at_call 36; refine HO.out.mono ?_; rintro r w1 ⟨h1, _⟩; obtain ⟨p, rfl, ow⟩ := h1 HL.out; rw [HZ.out] at ow; obtain ⟨g, cc, hc, hcap, hb1, hp, hg⟩ := ow; have hre := (Rw.new w 41 #[.string nm, .int .i64 f, .int .i64 l, .bool us, .bool de]).below hb1 (by simp); have q0 := hre.cell 0; have q1 := hre.cell 1; have q2 := hre.cell 2; have q3 := hre.cell 3; have q4 := hre.cell 4)
    | (go_at_call 43; refine (HV.out _).mono ?_; rintro e2 w2 ⟨rfl, hb2⟩; have hc2 := hc.below hb2; have s2 := hc2.c2; have hre2 := hre.below hb2 hre.lt; have t0 := hre2.cell 0; have t1 := hre2.cell 1; have t2 := hre2.cell 2; have t3 := hre2.cell 3; have t4 := hre2.cell 4)
    | (go_at_call 28; refine (within_any _ _ _ _).mono ?_; rw [hw1]; rintro e w' ⟨rfl, rfl⟩))
  have HC2 := Lib.hid hc2
  have hB2 : Below w.heap.size w w2 := (((Below.refl _ _).alloc (Nat.le_refl _) _).trans (hb1.mono (by simp))).trans (hb2.mono (Nat.le_trans (by simp) hb1.size))
  have HB2 := Lib.hid hB2
  have hg0 : w.heap.size ≤ g := Nat.le_trans (by simp) hg
  clear hc hc2 hb1 hb2 hre hre2 q0 q1 q2 q3 q4 hB2 s2
  go_region_law (first
    | (go_simp; go_at_call 44; refine (implEntryBytes_any k at' HC2.out.drew HAT.out (by omega) (by omega) hcap (by omega)).mono ?_; rintro e3 w3 ⟨rfl, rfl⟩)
    | (go_simp; go_at_call 45; refine (HPE.out _).mono ?_; rintro e4 w4 ⟨g2, rfl, hb, hg2, hb4⟩; have HC4 := HC2.out.drew.drew.below hb4)
    | (refine step_copy_bytes rfl (.tmp 35) (.tmp 37) 52 52 rfl 5 Try.underlying52 size8 g at' 12 (cc - at') (by rfl) g2 12 12 V (by rfl) (by omega) hb (fun j hj => by rw [HC4.row.cell (by omega)]; rfl) (fun j hj => HC4.row.frozen (by omega)) ?_))
  all_goals
    have HC5 := HC4.puts at' ((List.range 12).map V)
    have hB5 := below_setCells hg0 (((List.range 12).map V).map fun x => Value.int .u8 (x.toNat : Int)) at' _ (HB2.out.drew.drew.trans (hb4.mono HB2.out.drew.drew.size))
    go_wp2_with (go_at_call 32; refine (implDisk_any HC5 rfl hf.2.1 hf.2.2.2.2.2 (by omega) hcap).mono ?_; rintro r w6 ⟨A2, c2, rfl, ho2, hb6⟩)
    go_ret2
    exact ⟨A2, c2, rfl, own_base ho2 hB5.size, hB5.trans (hb6.mono hB5.size)⟩
theorem implSetEntry_shut {w : World} {n c : Nat} {A : Option Addr} {s : Nat → ByteArray} (k : Int) (nm : ByteArray) (f l : Int) (us de : Bool) (hs : Sl w w.heap.size A n (fun i => .string (s i))) (hsz : ∀ i, i < n → (s i).size ≤ 9223372036854775807) (hn : n ≤ c) (hn2 : n ≤ 9223372036854775807)
    (ho : ¬ opens n s) :
    Calls Try.prog 24 #[.slice A n c, .int .i64 k, entV nm f l us de] w fun r w' => r = .returned (.tuple #[.slice none 0 0, .int .i64 (openCode n s)]) ∧ Below w.heap.size w w' := by
  have hs1 : Sl (w.alloc (.cells #[.string nm, .int .i64 f, .int .i64 l, .bool us, .bool de] 41)) (w.alloc (.cells #[.string nm, .int .i64 f, .int .i64 l, .bool us, .bool de] 41)).heap.size A n (fun i => .string (s i)) := (hs.alloc (Nat.le_refl _) _).more (by simp)
  have HO := Lib.hid (implOpen hs1 hsz hn hn2)
  have hne := openCode_ne n s
  have HL := Lib.hid ho
  obtain ⟨code, hcode⟩ : ∃ code, openCode n s = code := ⟨_, rfl⟩
  rw [hcode] at hne ⊢
  have HCD := Lib.hid hcode
  unfold entV
  clear ho hs hs1 hsz hcode
  rcases hne with rfl | rfl
  all_goals
    go_enter Try.func24, Try.ntmps24
    go_wp2_with (go_at_call 36; refine HO.out.mono ?_; rintro r w1 ⟨_, h1⟩; have h2 := h1 HL.out; rw [HCD.out] at h2; obtain ⟨rfl, hb1⟩ := h2)
    go_ret2
    exact ⟨rfl, ((Below.refl _ _).alloc (Nat.le_refl _) _).trans (hb1.mono (by simp))⟩
set_option maxHeartbeats 1000000 in
theorem implSetEntry_bad {w : World} {n c : Nat} {A : Option Addr} {s : Nat → ByteArray} (k : Int) (nm : ByteArray) (f l : Int) (us de : Bool) (hnm : nm.size ≤ 9223372036854775807) (hs : Sl w w.heap.size A n (fun i => .string (s i))) (hsz : ∀ i, i < n → (s i).size ≤ 9223372036854775807) (hn : n ≤ c) (hn2 : n ≤ 9223372036854775807)
    (ho : opens n s) (hv : ¬ validE nm f l us de) :
    Calls Try.prog 24 #[.slice A n c, .int .i64 k, entV nm f l us de] w fun r w' => r = .returned (.tuple #[.slice none 0 0, .int .i64 1]) ∧ Below w.heap.size w w' := by
  have hs1 : Sl (w.alloc (.cells #[.string nm, .int .i64 f, .int .i64 l, .bool us, .bool de] 41)) (w.alloc (.cells #[.string nm, .int .i64 f, .int .i64 l, .bool us, .bool de] 41)).heap.size A n (fun i => .string (s i)) := (hs.alloc (Nat.le_refl _) _).more (by simp)
  have HO := Lib.hid (implOpen hs1 hsz hn hn2)
  have HL := Lib.hid ho
  have HV := Lib.hid (fun w : World => implValid_any nm f l us de hnm false (by simpa using hv) w)
  unfold entV at HV ⊢
  clear ho hs hs1 hsz hv
  go_enter Try.func24, Try.ntmps24
  go_wp2_with (first
    | (go_at_call 36; refine HO.out.mono ?_; rintro r w1 ⟨h1, _⟩; obtain ⟨p, rfl, g, cc, hc, hcap, hb1, hp, hg⟩ := h1 HL.out; have hre := (Rw.new w 41 #[.string nm, .int .i64 f, .int .i64 l, .bool us, .bool de]).below hb1 (by simp); have q0 := hre.cell 0; have q1 := hre.cell 1; have q2 := hre.cell 2; have q3 := hre.cell 3; have q4 := hre.cell 4)
    | (go_at_call 43; refine (HV.out _).mono ?_; rintro e2 w2 ⟨rfl, hb2⟩))
  go_ret2
  have hB1 := ((Below.refl w.heap.size w).alloc (Nat.le_refl _) (.cells #[.string nm, .int .i64 f, .int .i64 l, .bool us, .bool de] 41)).trans (hb1.mono (by simp))
  exact ⟨rfl, hB1.trans (hb2.mono hB1.size)⟩
set_option maxHeartbeats 1000000 in
theorem implSetEntry_range {w : World} {n c : Nat} {A : Option Addr} {s : Nat → ByteArray} (k : Int) (nm : ByteArray) (f l : Int) (us de : Bool) (hnm : nm.size ≤ 9223372036854775807) (hs : Sl w w.heap.size A n (fun i => .string (s i))) (hsz : ∀ i, i < n → (s i).size ≤ 9223372036854775807) (hn : n ≤ c) (hn2 : n ≤ 9223372036854775807)
    (ho : opens n s) (hv : validE nm f l us de) (hk : ¬ (0 ≤ k ∧ k < entsN n)) :
    Calls Try.prog 24 #[.slice A n c, .int .i64 k, entV nm f l us de] w fun r w' => r = .returned (.tuple #[.slice none 0 0, .int .i64 2]) ∧ Below w.heap.size w w' := by
  have hs1 : Sl (w.alloc (.cells #[.string nm, .int .i64 f, .int .i64 l, .bool us, .bool de] 41)) (w.alloc (.cells #[.string nm, .int .i64 f, .int .i64 l, .bool us, .bool de] 41)).heap.size A n (fun i => .string (s i)) := (hs.alloc (Nat.le_refl _) _).more (by simp)
  have HO := Lib.hid (implOpen hs1 hsz hn hn2)
  have HL := Lib.hid ho
  have HV := Lib.hid (fun w : World => implValid_any nm f l us de hnm true (by simpa using hv) w)
  have he16 : entsN n ≤ 16 := by unfold entsN; omega
  have hw1 : (decide ((0 : Int) ≤ k) && decide (k ≤ (entsN n : Int) - 1)) = false := by
    rw [Bool.eq_false_iff]
    intro h
    simp at h
    omega
  unfold entV at HV ⊢
  clear ho hs hs1 hsz hv hk
  go_enter Try.func24, Try.ntmps24
  go_wp2_with (first
    | (go_at_call 36; refine HO.out.mono ?_; rintro r w1 ⟨h1, _⟩; obtain ⟨p, rfl, g, cc, hc, hcap, hb1, hp, hg⟩ := h1 HL.out; have hre := (Rw.new w 41 #[.string nm, .int .i64 f, .int .i64 l, .bool us, .bool de]).below hb1 (by simp); have q0 := hre.cell 0; have q1 := hre.cell 1; have q2 := hre.cell 2; have q3 := hre.cell 3; have q4 := hre.cell 4)
    | (go_at_call 43; refine (HV.out _).mono ?_; rintro e2 w2 ⟨rfl, hb2⟩; have hc2 := hc.below hb2; have s2 := hc2.c2)
    | (go_at_call 28; refine (within_any _ _ _ _).mono ?_; rw [hw1]; rintro e w' ⟨rfl, rfl⟩))
  go_ret2
  have hB1 := ((Below.refl w.heap.size w).alloc (Nat.le_refl _) (.cells #[.string nm, .int .i64 f, .int .i64 l, .bool us, .bool de] 41)).trans (hb1.mono (by simp))
  exact ⟨rfl, hB1.trans (hb2.mono hB1.size)⟩
set_option maxHeartbeats 2000000 in
theorem specSetEntryTop_ok {w : World} {n c : Nat} {A : Option Addr} {s : Nat → ByteArray} (k : Nat) (nm : ByteArray) (f l : Nat) (us de : Bool) (hnm : nm.size ≤ 9223372036854775807) (hs : Sl w w.heap.size A n (fun i => .string (s i))) (hsz : ∀ i, i < n → (s i).size ≤ 9223372036854775807) (hn : n ≤ c) (hn2 : n ≤ 9223372036854775807)
    (ho : opens n s) (hk : k < entsN n) (hv : validE nm f l us de) :
    Calls Try.prog 22 #[.slice A n c, .int .i64 k, entV nm f l us de] w fun r w' => ∃ A c, r = .returned (.tuple #[.slice A n c, .int .i64 0]) ∧ w'.ownsRow w.heap.size 9 1 (.slice A n c) n ((List.range n).map fun (i : Nat) => Value.string (blkOf (s 0).size (setE n (s 0).size (joinU (s 0).size s) k nm f l us de) i)) ∧ Below w.heap.size w w' := by
  have hs1 : Sl (w.alloc (.cells #[.string nm, .int .i64 f, .int .i64 l, .bool us, .bool de] 41)) (w.alloc (.cells #[.string nm, .int .i64 f, .int .i64 l, .bool us, .bool de] 41)).heap.size A n (fun i => .string (s i)) := (hs.alloc (Nat.le_refl _) _).more (by simp)
  have HO := Lib.hid (specOpen hs1 hsz hn hn2)
  obtain ⟨hv1, hv2, hv3⟩ := validE_facts hv
  have hf := shape_facts ho.1
  have hft := fit_facts ho.1 hk
  have he16 : entsN n ≤ 16 := by unfold entsN; omega
  obtain ⟨z, hz⟩ : ∃ z, (s 0).size = z := ⟨_, rfl⟩
  rw [hz] at hf hft ⊢
  have HZ := Lib.hid hz
  have HL := Lib.hid ho
  have HV := Lib.hid (fun (w : World) (q : Nat) => specValid_any q nm f l us de hnm true (by simpa using hv) w)
  unfold entV
  obtain ⟨at', hat⟩ : ∃ a, dirN n z * z + k * 12 = a := ⟨_, rfl⟩
  have hw1 : (decide ((0 : Int) ≤ (k : Int)) && decide ((k : Int) ≤ (entsN n : Int) - 1)) = true := by simp; omega
  unfold setE
  rw [hat] at hft ⊢
  have HAT := Lib.hid hat
  have hf255 : f ≤ 255 := by omega
  have hl512 : l ≤ 512 := by omega
  clear ho hs hs1 hsz hz hv hat hv2 hv3
  go_enter Try.func22, Try.ntmps22
  go_wp2_with (first
    | (go_at_call 34; refine HO.out.mono ?_; rintro r w1 ⟨h1, _⟩; obtain ⟨p, rfl, ow⟩ := h1 HL.out; rw [HZ.out] at ow; obtain ⟨g, cc, hc, hcap, hb1, hp, hg⟩ := ow; have hre := (Rw.new w 41 #[.string nm, .int .i64 f, .int .i64 l, .bool us, .bool de]).below hb1 (by simp))
    | (go_at_call 41; refine (HV.out _ _ hre).mono ?_; rintro e2 w2 ⟨rfl, hb2⟩; have hc2 := hc.below hb2; have s2 := hc2.c2; have hre2 := hre.below hb2 hre.lt)
    | (go_at_call 38; refine (l00In_any _ _ _ _).mono ?_; rw [hw1]; rintro e w' ⟨rfl, rfl⟩)
    | (go_at_call 42; refine (specSetEntry_any k at' nm f l us de hv1 hf255 hl512 hc2 hre2 HAT.out (by omega) (by omega) hcap (by omega)).mono ?_; rintro e3 w3 ⟨rfl, hc3, hb3⟩)
    | (go_at_call 27; refine (specDisk_any hc3 rfl hf.2.1 hf.2.2.2.2.2 (by omega) hcap).mono ?_; rintro r w6 ⟨A2, c2, rfl, ho2, hb6⟩))
  go_ret2
  have hB1 := ((Below.refl w.heap.size w).alloc (Nat.le_refl _) (.cells #[.string nm, .int .i64 f, .int .i64 l, .bool us, .bool de] 41)).trans (hb1.mono (by simp))
  have hB2 := hB1.trans (hb2.mono hB1.size)
  have hB3 := hB2.trans (hb3 w.heap.size (Nat.le_trans (by simp) hg) hB2.size)
  exact ⟨A2, c2, rfl, own_base ho2 hB3.size, hB3.trans (hb6.mono hB3.size)⟩
theorem specSetEntryTop_shut {w : World} {n c : Nat} {A : Option Addr} {s : Nat → ByteArray} (k : Int) (nm : ByteArray) (f l : Int) (us de : Bool) (hnm : nm.size ≤ 9223372036854775807) (hs : Sl w w.heap.size A n (fun i => .string (s i))) (hsz : ∀ i, i < n → (s i).size ≤ 9223372036854775807) (hn : n ≤ c) (hn2 : n ≤ 9223372036854775807)
    (ho : ¬ opens n s) :
    Calls Try.prog 22 #[.slice A n c, .int .i64 k, entV nm f l us de] w fun r w' => r = .returned (.tuple #[.slice none 0 0, .int .i64 (openCode n s)]) ∧ Below w.heap.size w w' := by
  have hs1 : Sl (w.alloc (.cells #[.string nm, .int .i64 f, .int .i64 l, .bool us, .bool de] 41)) (w.alloc (.cells #[.string nm, .int .i64 f, .int .i64 l, .bool us, .bool de] 41)).heap.size A n (fun i => .string (s i)) := (hs.alloc (Nat.le_refl _) _).more (by simp)
  have HO := Lib.hid (specOpen hs1 hsz hn hn2)
  have hne := openCode_ne n s
  have HL := Lib.hid ho
  obtain ⟨code, hcode⟩ : ∃ code, openCode n s = code := ⟨_, rfl⟩
  rw [hcode] at hne ⊢
  have HCD := Lib.hid hcode
  unfold entV
  clear ho hs hs1 hsz hcode
  rcases hne with rfl | rfl
  all_goals
    go_enter Try.func22, Try.ntmps22
    go_wp2_with (go_at_call 34; refine HO.out.mono ?_; rintro r w1 ⟨_, h1⟩; have h2 := h1 HL.out; rw [HCD.out] at h2; obtain ⟨rfl, hb1⟩ := h2)
    go_ret2
    exact ⟨rfl, ((Below.refl _ _).alloc (Nat.le_refl _) _).trans (hb1.mono (by simp))⟩
set_option maxHeartbeats 1000000 in
theorem specSetEntryTop_bad {w : World} {n c : Nat} {A : Option Addr} {s : Nat → ByteArray} (k : Int) (nm : ByteArray) (f l : Int) (us de : Bool) (hnm : nm.size ≤ 9223372036854775807) (hs : Sl w w.heap.size A n (fun i => .string (s i))) (hsz : ∀ i, i < n → (s i).size ≤ 9223372036854775807) (hn : n ≤ c) (hn2 : n ≤ 9223372036854775807)
    (ho : opens n s) (hv : ¬ validE nm f l us de) :
    Calls Try.prog 22 #[.slice A n c, .int .i64 k, entV nm f l us de] w fun r w' => r = .returned (.tuple #[.slice none 0 0, .int .i64 1]) ∧ Below w.heap.size w w' := by
  have hs1 : Sl (w.alloc (.cells #[.string nm, .int .i64 f, .int .i64 l, .bool us, .bool de] 41)) (w.alloc (.cells #[.string nm, .int .i64 f, .int .i64 l, .bool us, .bool de] 41)).heap.size A n (fun i => .string (s i)) := (hs.alloc (Nat.le_refl _) _).more (by simp)
  have HO := Lib.hid (specOpen hs1 hsz hn hn2)
  have HL := Lib.hid ho
  have HV := Lib.hid (fun (w : World) (q : Nat) => specValid_any q nm f l us de hnm false (by simpa using hv) w)
  unfold entV
  clear ho hs hs1 hsz hv
  go_enter Try.func22, Try.ntmps22
  go_wp2_with (first
    | (go_at_call 34; refine HO.out.mono ?_; rintro r w1 ⟨h1, _⟩; obtain ⟨p, rfl, ow⟩ := h1 HL.out; obtain ⟨g, cc, hc, hcap, hb1, hp, hg⟩ := ow; have hre := (Rw.new w 41 #[.string nm, .int .i64 f, .int .i64 l, .bool us, .bool de]).below hb1 (by simp))
    | (go_at_call 41; refine (HV.out _ _ hre).mono ?_; rintro e2 w2 ⟨rfl, hb2⟩; have hc2 := hc.below hb2; have s2 := hc2.c2))
  go_ret2
  have hB1 := ((Below.refl w.heap.size w).alloc (Nat.le_refl _) (.cells #[.string nm, .int .i64 f, .int .i64 l, .bool us, .bool de] 41)).trans (hb1.mono (by simp))
  exact ⟨rfl, hB1.trans (hb2.mono hB1.size)⟩
set_option maxHeartbeats 1000000 in
theorem specSetEntryTop_range {w : World} {n c : Nat} {A : Option Addr} {s : Nat → ByteArray} (k : Int) (nm : ByteArray) (f l : Int) (us de : Bool) (hnm : nm.size ≤ 9223372036854775807) (hs : Sl w w.heap.size A n (fun i => .string (s i))) (hsz : ∀ i, i < n → (s i).size ≤ 9223372036854775807) (hn : n ≤ c) (hn2 : n ≤ 9223372036854775807)
    (ho : opens n s) (hv : validE nm f l us de) (hk : ¬ (0 ≤ k ∧ k < entsN n)) :
    Calls Try.prog 22 #[.slice A n c, .int .i64 k, entV nm f l us de] w fun r w' => r = .returned (.tuple #[.slice none 0 0, .int .i64 2]) ∧ Below w.heap.size w w' := by
  have hs1 : Sl (w.alloc (.cells #[.string nm, .int .i64 f, .int .i64 l, .bool us, .bool de] 41)) (w.alloc (.cells #[.string nm, .int .i64 f, .int .i64 l, .bool us, .bool de] 41)).heap.size A n (fun i => .string (s i)) := (hs.alloc (Nat.le_refl _) _).more (by simp)
  have HO := Lib.hid (specOpen hs1 hsz hn hn2)
  have HL := Lib.hid ho
  have HV := Lib.hid (fun (w : World) (q : Nat) => specValid_any q nm f l us de hnm true (by simpa using hv) w)
  have he16 : entsN n ≤ 16 := by unfold entsN; omega
  have hw1 : (decide ((0 : Int) ≤ k) && decide (k ≤ (entsN n : Int) - 1)) = false := by
    rw [Bool.eq_false_iff]
    intro h
    simp at h
    omega
  unfold entV
  clear ho hs hs1 hsz hv hk
  go_enter Try.func22, Try.ntmps22
  go_wp2_with (first
    | (go_at_call 34; refine HO.out.mono ?_; rintro r w1 ⟨h1, _⟩; obtain ⟨p, rfl, ow⟩ := h1 HL.out; obtain ⟨g, cc, hc, hcap, hb1, hp, hg⟩ := ow; have hre := (Rw.new w 41 #[.string nm, .int .i64 f, .int .i64 l, .bool us, .bool de]).below hb1 (by simp))
    | (go_at_call 41; refine (HV.out _ _ hre).mono ?_; rintro e2 w2 ⟨rfl, hb2⟩; have hc2 := hc.below hb2; have s2 := hc2.c2)
    | (go_at_call 38; refine (l00In_any _ _ _ _).mono ?_; rw [hw1]; rintro e w' ⟨rfl, rfl⟩))
  go_ret2
  have hB1 := ((Below.refl w.heap.size w).alloc (Nat.le_refl _) (.cells #[.string nm, .int .i64 f, .int .i64 l, .bool us, .bool de] 41)).trans (hb1.mono (by simp))
  exact ⟨rfl, hB1.trans (hb2.mono hB1.size)⟩
end Go.Proofs.Ytbdabciaaaeofaa
