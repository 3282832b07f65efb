/-
  Disks of chains: opening a disk has one outcome on both sides; FreeChains, SetLink.
-/
import Derived.Test.YtbdabciaaaeofaaChainLinks
namespace Go.Proofs.Ytbdabciaaaeofaa
open Go Go.ChangeShapes Go.WideShapes Go.ChangeAt Go.RowKit lib
set_option linter.unusedVariables false
set_option maxRecDepth 100000
def opens (n : Nat) (s : Nat → ByteArray) : Prop := ShapeS 8 n s ∧ s 0 = hdrS n (s 0).size
open Classical in
noncomputable def openCode (n : Nat) (s : Nat → ByteArray) : Int := if ShapeS 8 n s then 7 else 1
theorem openCode_ne (n : Nat) (s : Nat → ByteArray) : openCode n s = 1 ∨ openCode n s = 7 := by
  unfold openCode
  split
  · exact .inr rfl
  · exact .inl rfl
/-- how opening a disk ends -/
def OpenOut (r : Ending) (w w' : World) (n : Nat) (s : Nat → ByteArray) : Prop :=
  (opens n s → ∃ p, r = .returned (.tuple #[.pointer (some ⟨p, 0, none⟩), .int .i64 0]) ∧ OpenW w w' p n (s 0).size s) ∧
  (¬ opens n s → r = .returned (.tuple #[.pointer none, .int .i64 (openCode n s)]) ∧ Below w.heap.size w w')
theorem range_getD (L : List Nat) : ((List.range L.length).map fun (i : Nat) => Value.int .i64 ((L.getD i 0 : Nat) : Int)) = L.map fun (i : Nat) => Value.int .i64 (i : Int) := by
  apply List.ext_getElem
  · simp
  · intro i h1 h2
    simp only [List.length_map] at h2
    simp [List.getElem?_eq_getElem h2]
theorem implOpen {w : World} {n c : Nat} {A : Option Addr} {s : Nat → ByteArray} (hs : Sl w w.heap.size A n (fun i => .string (s i))) (hsz : ∀ i, i < n → (s i).size ≤ 9223372036854775807) (hn : n ≤ c) (hn2 : n ≤ 9223372036854775807) :
    Calls Try.prog 36 #[.slice A n c] w fun r w' => OpenOut r w w' n s := by
  by_cases h : ShapeS 8 n s
  · have hc : openCode n s = 7 := by unfold openCode; rw [if_pos h]
    refine (openChains_any hs hn h rfl).mono fun r w' ⟨h1, h2⟩ => ⟨fun ho => h1 ho.2, fun ho => ?_⟩
    rw [hc]
    exact h2 fun he => ho ⟨h, he⟩
  · have hc : openCode n s = 1 := by unfold openCode; rw [if_neg h]
    refine (openChains_shape hs hsz hn2 h).mono fun r w' ⟨h1, h2⟩ => ⟨fun ho => absurd ho.1 h, fun _ => ?_⟩
    rw [hc]
    exact ⟨h1, h2 ▸ Below.refl _ _⟩
theorem specOpen {w : World} {n c : Nat} {A : Option Addr} {s : Nat → ByteArray} (hs : Sl w w.heap.size A n (fun i => .string (s i))) (hsz : ∀ i, i < n → (s i).size ≤ 9223372036854775807) (hn : n ≤ c) (hn2 : n ≤ 9223372036854775807) :
    Calls Try.prog 34 #[.slice A n c] w fun r w' => OpenOut r w w' n s := by
  by_cases h0 : 0 < n
  · by_cases ht : 8 ≤ n ∧ n ≤ 128 ∧ ((s 0).size = 8 ∨ (s 0).size = 16 ∨ (s 0).size = 32)
    · refine (l16Open_any hs hsz ht.1 ht.2.1 ht.2.2 rfl).mono fun r w' ⟨h1, h2⟩ => ?_
      by_cases ha : ∀ i, i < n → (s i).size = (s 0).size
      · have h : ShapeS 8 n s := ⟨ht.1, ht.2.1, ht.2.2, ha⟩
        have hc : openCode n s = 7 := by unfold openCode; rw [if_pos h]
        refine ⟨fun ho => (h2 ha).1 ho.2, fun ho => ?_⟩
        rw [hc]
        exact (h2 ha).2 fun he => ho ⟨h, he⟩
      · have h : ¬ ShapeS 8 n s := fun h => ha h.all
        have hc : openCode n s = 1 := by unfold openCode; rw [if_neg h]
        refine ⟨fun ho => absurd ho.1 h, fun _ => ?_⟩
        rw [hc]
        exact h1 ha
    · have h : ¬ ShapeS 8 n s := fun h => ht ⟨h.lo, h.hi, h.sz⟩
      have hc : openCode n s = 1 := by unfold openCode; rw [if_neg h]
      refine (l16Open_shape hs hsz hn2 h0 ht).mono fun r w' h1 => ⟨fun ho => absurd ho.1 h, fun _ => ?_⟩
      rw [hc]
      exact h1
  · obtain rfl : n = 0 := by omega
    have h : ¬ ShapeS 8 0 s := fun h => absurd h.lo (by omega)
    have hc : openCode 0 s = 1 := by unfold openCode; rw [if_neg h]
    refine (l16Open_none A c w).mono fun r w' h1 => ⟨fun ho => absurd ho.1 h, fun _ => ?_⟩
    rw [hc]
    exact h1
/-- the free blocks of a disk that opens -/
def freeOf (n : Nat) (s : Nat → ByteArray) : List Nat := freeN (joinU (s 0).size s) (s 0).size (dataN n (s 0).size) (n - dataN n (s 0).size)
theorem shape_facts {n : Nat} {s : Nat → ByteArray} (h : ShapeS 8 n s) : dataN n (s 0).size ≤ n ∧ n ≤ 128 ∧ (s 0).size + n ≤ n * (s 0).size ∧ n * (s 0).size ≤ 4096 ∧ 8 ≤ (s 0).size ∧ (s 0).size ≤ 32 := by
  have hl : LayOk n (s 0).size := ⟨h.lo, h.hi, h.sz⟩
  have hz8 : 8 ≤ (s 0).size := by have := h.sz; omega
  have hz32 : (s 0).size ≤ 32 := by have := h.sz; omega
  refine ⟨hl.data, h.hi, ?_, Nat.mul_le_mul h.hi hz32, hz8, hz32⟩
  generalize (s 0).size = z at *
  have hlo := h.lo
  obtain ⟨a, rfl⟩ : ∃ a, n = a + 2 := ⟨n - 2, by omega⟩
  have h2 := Nat.mul_le_mul_left a hz8
  rw [Nat.add_mul]
  omega
theorem implFreeChains {w : World} {n c : Nat} {A : Option Addr} {s : Nat → ByteArray} (hs : Sl w w.heap.size A n (fun i => .string (s i))) (hsz : ∀ i, i < n → (s i).size ≤ 9223372036854775807) (hn : n ≤ c) (hn2 : n ≤ 9223372036854775807) :
    Calls Try.prog 15 #[.slice A n c] w fun r w' => (opens n s → ∃ A c, r = .returned (.tuple #[.slice A (freeOf n s).length c, .int .i64 0]) ∧ w'.ownsRow w.heap.size 2 1 (.slice A (freeOf n s).length c) (freeOf n s).length ((freeOf n s).map fun (i : Nat) => Value.int .i64 (i : Int)) ∧ Below w.heap.size w w') ∧
      (¬ opens n s → r = .returned (.tuple #[.slice none 0 0, .int .i64 (openCode n s)]) ∧ Below w.heap.size w w') := by
  have HO := Lib.hid (implOpen hs hsz hn hn2)
  by_cases ho : opens n s
  · have hf := shape_facts ho.1
    unfold freeOf
    obtain ⟨z, hz⟩ : ∃ z, (s 0).size = z := ⟨_, rfl⟩
    rw [hz] at hf ⊢
    have HZ := Lib.hid hz
    have HL := Lib.hid ho
    clear ho hs hsz hz
    go_enter Try.func15, Try.ntmps15
    go_wp2_with (first
      | (go_at_call 36; refine HO.out.mono ?_; rintro r w1 ⟨h1, _⟩; obtain ⟨p, rfl, ow⟩ := h1 HL.out; rw [HZ.out] at ow; obtain ⟨g, cc, hc, hcap, hb1, hp, hg⟩ := ow)
      | (go_at_call 37; refine (implFree_any hc hf.1 hf.2.1 hf.2.2.1 hf.2.2.2.1).mono ?_; rintro r w2 ⟨A2, c2, rfl, ho2, hb2⟩))
    go_ret2
    exact ⟨fun _ => ⟨A2, c2, rfl, own_base ho2 hb1.size, hb1.trans (hb2.mono hb1.size)⟩, fun h => absurd HL.out h⟩
  · have hne := openCode_ne n s
    have HL := Lib.hid ho
    obtain ⟨code, hcode⟩ : ∃ code, openCode n s = code := ⟨_, rfl⟩
    rw [hcode] at hne ⊢
    have HCD := Lib.hid hcode
    clear ho hs hsz hcode
    rcases hne with rfl | rfl
    all_goals
      go_enter Try.func15, Try.ntmps15
      go_wp2_with (go_at_call 36; refine HO.out.mono ?_; rintro r w1 ⟨_, h1⟩; have h2 := h1 HL.out; rw [HCD.out] at h2; obtain ⟨rfl, hb1⟩ := h2)
      go_ret2
      exact ⟨fun h => absurd h HL.out, fun _ => ⟨rfl, hb1⟩⟩
theorem specFreeChains {w : World} {n c : Nat} {A : Option Addr} {s : Nat → ByteArray} (hs : Sl w w.heap.size A n (fun i => .string (s i))) (hsz : ∀ i, i < n → (s i).size ≤ 9223372036854775807) (hn : n ≤ c) (hn2 : n ≤ 9223372036854775807) :
    Calls Try.prog 13 #[.slice A n c] w fun r w' => (opens n s → ∃ A c, r = .returned (.tuple #[.slice A (freeOf n s).length c, .int .i64 0]) ∧ w'.ownsRow w.heap.size 2 1 (.slice A (freeOf n s).length c) (freeOf n s).length ((freeOf n s).map fun (i : Nat) => Value.int .i64 (i : Int)) ∧ Below w.heap.size w w') ∧
      (¬ opens n s → r = .returned (.tuple #[.slice none 0 0, .int .i64 (openCode n s)]) ∧ Below w.heap.size w w') := by
  have HO := Lib.hid (specOpen hs hsz hn hn2)
  by_cases ho : opens n s
  · have hf := shape_facts ho.1
    unfold freeOf
    obtain ⟨z, hz⟩ : ∃ z, (s 0).size = z := ⟨_, rfl⟩
    rw [hz] at hf ⊢
    have HZ := Lib.hid hz
    have HL := Lib.hid ho
    clear ho hs hsz hz
    go_enter Try.func13, Try.ntmps13
    go_wp2_with (first
      | (go_at_call 34; refine HO.out.mono ?_; rintro r w1 ⟨h1, _⟩; obtain ⟨p, rfl, ow⟩ := h1 HL.out; rw [HZ.out] at ow; obtain ⟨g, cc, hc, hcap, hb1, hp, hg⟩ := ow)
      | (go_at_call 35; refine (specFree_any hc hf.1 hf.2.1 hf.2.2.1 hf.2.2.2.1).mono ?_; rintro r w2 ⟨A2, c2, rfl, ho2, hb2⟩))
    go_ret2
    exact ⟨fun _ => ⟨A2, c2, rfl, own_base ho2 hb1.size, hb1.trans (hb2.mono hb1.size)⟩, fun h => absurd HL.out h⟩
  · have hne := openCode_ne n s
    have HL := Lib.hid ho
    obtain ⟨code, hcode⟩ : ∃ code, openCode n s = code := ⟨_, rfl⟩
    rw [hcode] at hne ⊢
    have HCD := Lib.hid hcode
    clear ho hs hsz hcode
    rcases hne with rfl | rfl
    all_goals
      go_enter Try.func13, Try.ntmps13
      go_wp2_with (go_at_call 34; refine HO.out.mono ?_; rintro r w1 ⟨_, h1⟩; have h2 := h1 HL.out; rw [HCD.out] at h2; obtain ⟨rfl, hb1⟩ := h2)
      go_ret2
      exact ⟨fun h => absurd h HL.out, fun _ => ⟨rfl, hb1⟩⟩
/-- the bytes when a link is set -/
def setU (z : Nat) (U : Nat → UInt8) (k : Nat) (x : Nat) : Nat → UInt8 := upd U (z + k) (UInt8.ofNat x)
theorem u8_ofNat {x : Nat} (h : x ≤ 255) : ((x : Int)) = ((UInt8.ofNat x).toNat : Int) := by
  rw [UInt8.toNat_ofNat']
  omega
theorem implSetLink_ok {w : World} {n c : Nat} {A : Option Addr} {s : Nat → ByteArray} (k x : Nat) (hs : Sl w w.heap.size A n (fun i => .string (s i))) (hsz : ∀ i, i < n → (s i).size ≤ 9223372036854775807) (hn : n ≤ c) (hn2 : n ≤ 9223372036854775807)
    (ho : opens n s) (hk : k < n) (hx : x ≤ 255) :
    Calls Try.prog 20 #[.slice A n c, .int .i64 k, .int .i64 x] w fun r w' => ∃ A c, r = .returned (.tuple #[.slice A n c, .int .i64 0]) ∧ w'.ownsRow w.heap.size 9 1 (.slice A n c) n ((List.range n).map fun (i : Nat) => Value.string (blkOf (s 0).size (setU (s 0).size (joinU (s 0).size s) k x) i)) ∧ Below w.heap.size w w' := by
  have HO := Lib.hid (implOpen hs hsz hn hn2)
  have hf := shape_facts ho.1
  obtain ⟨z, hz⟩ : ∃ z, (s 0).size = z := ⟨_, rfl⟩
  rw [hz] at hf ⊢
  have HZ := Lib.hid hz
  have HL := Lib.hid ho
  clear ho hs hsz hz
  have hw1 : (decide ((0 : Int) ≤ (k : Int)) && decide ((k : Int) ≤ (n : Int) - 1)) = true := by simp; omega
  have hw2 : (decide ((0 : Int) ≤ (x : Int)) && decide ((x : Int) ≤ 255)) = true := by simp; omega
  go_enter Try.func20, Try.ntmps20
  go_wp2_with (first
    | (go_at_call 36; refine HO.out.mono ?_; rintro r w1 ⟨h1, _⟩; obtain ⟨p, rfl, ow⟩ := h1 HL.out; rw [HZ.out] at ow; obtain ⟨g, cc, hc, hcap, hb1, hp, hg⟩ := ow; have c0 := hc.c0; have hrc := hc.row.cell (i := z + k) (by omega); have hrf := hc.row.frozen (i := z + k) (by omega))
    | (go_at_call 28; refine (within_any _ _ _ _).mono ?_; rw [hw1]; rintro e w' ⟨rfl, rfl⟩)
    | (go_at_call 40; refine (isByte_any _ _).mono ?_; rw [hw2]; rintro e w' ⟨rfl, rfl⟩)
    | (go_at_call 31; refine (implLink_any k hc (by omega) (by omega)).mono ?_; rintro e3 w3 ⟨rfl, rfl⟩)
    | (go_at_call 32; refine (implDisk_any (hc.put (z + k) (UInt8.ofNat x) (u8_ofNat hx)).drew rfl hf.2.1 hf.2.2.2.2.2 (by omega) hcap).mono ?_; rintro r w2 ⟨A2, c2, rfl, ho2, hb2⟩))
  go_ret2
  have hb3 := (hb1.setCell (p := ⟨g, z + k, none⟩) hg (.int .u8 (x : Int))).drew
  exact ⟨A2, c2, rfl, own_base ho2 hb3.size, hb3.trans (hb2.mono hb3.size)⟩
theorem implSetLink_shut {w : World} {n c : Nat} {A : Option Addr} {s : Nat → ByteArray} (k x : Int) (hs : Sl w w.heap.size A n (fun i => .string (s i))) (hsz : ∀ i, i < n → (s i).size ≤ 9223372036854775807) (hn : n ≤ c) (hn2 : n ≤ 9223372036854775807)
    (ho : ¬ opens n s) :
    Calls Try.prog 20 #[.slice A n c, .int .i64 k, .int .i64 x] w fun r w' => r = .returned (.tuple #[.slice none 0 0, .int .i64 (openCode n s)]) ∧ Below w.heap.size w w' := by
  have HO := Lib.hid (implOpen hs hsz hn hn2)
  have hne := openCode_ne n s
  have HL := Lib.hid ho
  obtain ⟨code, hcode⟩ : ∃ code, openCode n s = code := ⟨_, rfl⟩
  rw [hcode] at hne ⊢
  have HCD := Lib.hid hcode
  clear ho hs hsz hcode
  rcases hne with rfl | rfl
  all_goals
    go_enter Try.func20, Try.ntmps20
    go_wp2_with (go_at_call 36; refine HO.out.mono ?_; rintro r w1 ⟨_, h1⟩; have h2 := h1 HL.out; rw [HCD.out] at h2; obtain ⟨rfl, hb1⟩ := h2)
    go_ret2
    exact ⟨rfl, hb1⟩
theorem implSetLink_range {w : World} {n c : Nat} {A : Option Addr} {s : Nat → ByteArray} (k x : Int) (hs : Sl w w.heap.size A n (fun i => .string (s i))) (hsz : ∀ i, i < n → (s i).size ≤ 9223372036854775807) (hn : n ≤ c) (hn2 : n ≤ 9223372036854775807)
    (ho : opens n s) (hkx : ¬ (0 ≤ k ∧ k < n ∧ 0 ≤ x ∧ x ≤ 255)) :
    Calls Try.prog 20 #[.slice A n c, .int .i64 k, .int .i64 x] w fun r w' => r = .returned (.tuple #[.slice none 0 0, .int .i64 2]) ∧ Below w.heap.size w w' := by
  have HO := Lib.hid (implOpen hs hsz hn hn2)
  have hf := shape_facts ho.1
  obtain ⟨z, hz⟩ : ∃ z, (s 0).size = z := ⟨_, rfl⟩
  rw [hz] at hf
  have HZ := Lib.hid hz
  have HL := Lib.hid ho
  clear ho hs hsz hz
  by_cases hk : 0 ≤ k ∧ k < n
  · have hw1 : (decide ((0 : Int) ≤ k) && decide (k ≤ (n : Int) - 1)) = true := by simp; omega
    have hw2 : (decide ((0 : Int) ≤ x) && decide (x ≤ 255)) = false := by
      rw [Bool.eq_false_iff]
      intro h
      simp at h
      omega
    clear hkx
    go_enter Try.func20, Try.ntmps20
    go_wp2_with (first
      | (go_at_call 36; refine HO.out.mono ?_; rintro r w1 ⟨h1, _⟩; obtain ⟨p, rfl, ow⟩ := h1 HL.out; rw [HZ.out] at ow; obtain ⟨g, cc, hc, hcap, hb1, hp, hg⟩ := ow; have c0 := hc.c0)
      | (go_at_call 28; refine (within_any _ _ _ _).mono ?_; rw [hw1]; rintro e w' ⟨rfl, rfl⟩)
      | (go_at_call 40; refine (isByte_any _ _).mono ?_; rw [hw2]; rintro e w' ⟨rfl, rfl⟩))
    go_ret2
    exact ⟨rfl, hb1⟩
  · have hw1 : (decide ((0 : Int) ≤ k) && decide (k ≤ (n : Int) - 1)) = false := by
      rw [Bool.eq_false_iff]
      intro h
      simp at h
      omega
    clear hkx hk
    go_enter Try.func20, Try.ntmps20
    go_wp2_with (first
      | (go_at_call 36; refine HO.out.mono ?_; rintro r w1 ⟨h1, _⟩; obtain ⟨p, rfl, ow⟩ := h1 HL.out; rw [HZ.out] at ow; obtain ⟨g, cc, hc, hcap, hb1, hp, hg⟩ := ow; have c0 := hc.c0)
      | (go_at_call 28; refine (within_any _ _ _ _).mono ?_; rw [hw1]; rintro e w' ⟨rfl, rfl⟩)
      | (go_at_call 40; refine (isByte_any _ _).mono ?_; rintro e w' ⟨rfl, rfl⟩))
    go_ret2
    exact ⟨rfl, hb1⟩
theorem specSetLinkTop_ok {w : World} {n c : Nat} {A : Option Addr} {s : Nat → ByteArray} (k x : Nat) (hs : Sl w w.heap.size A n (fun i => .string (s i))) (hsz : ∀ i, i < n → (s i).size ≤ 9223372036854775807) (hn : n ≤ c) (hn2 : n ≤ 9223372036854775807)
    (ho : opens n s) (hk : k < n) (hx : x ≤ 255) :
    Calls Try.prog 19 #[.slice A n c, .int .i64 k, .int .i64 x] w fun r w' => ∃ A c, r = .returned (.tuple #[.slice A n c, .int .i64 0]) ∧ w'.ownsRow w.heap.size 9 1 (.slice A n c) n ((List.range n).map fun (i : Nat) => Value.string (blkOf (s 0).size (setU (s 0).size (joinU (s 0).size s) k x) i)) ∧ Below w.heap.size w w' := by
  have HO := Lib.hid (specOpen hs hsz hn hn2)
  have hf := shape_facts ho.1
  obtain ⟨z, hz⟩ : ∃ z, (s 0).size = z := ⟨_, rfl⟩
  rw [hz] at hf ⊢
  have HZ := Lib.hid hz
  have HL := Lib.hid ho
  clear ho hs hsz hz
  have hw1 : (decide ((0 : Int) ≤ (k : Int)) && decide ((k : Int) ≤ (n : Int) - 1)) = true := by simp; omega
  have hw2 : (decide ((0 : Int) ≤ (x : Int)) && decide ((x : Int) ≤ 255)) = true := by simp; omega
  go_enter Try.func19, Try.ntmps19
  go_wp2_with (first
    | (go_at_call 34; refine HO.out.mono ?_; rintro r w1 ⟨h1, _⟩; obtain ⟨p, rfl, ow⟩ := h1 HL.out; rw [HZ.out] at ow; obtain ⟨g, cc, hc, hcap, hb1, hp, hg⟩ := ow; have c0 := hc.c0)
    | (go_at_call 38; refine (l00In_any _ _ _ _).mono ?_; (first | rw [hw1] | rw [hw2]); rintro e w' ⟨rfl, rfl⟩)
    | (go_at_call 39; refine (specSetLink_any k x hc (by omega) (by omega)).mono ?_; rintro e3 w3 ⟨rfl, rfl⟩)
    | (go_at_call 27; refine (specDisk_any (hc.put (z + k) (UInt8.ofNat x) (y := (x : Int) % 256) (by rw [← u8_ofNat hx]; omega)).drew rfl hf.2.1 hf.2.2.2.2.2 (by omega) hcap).mono ?_; rintro r w2 ⟨A2, c2, rfl, ho2, hb2⟩))
  go_ret2
  have hb3 := (hb1.setCell (p := ⟨g, z + k, none⟩) hg (.int .u8 ((x : Int) % 256))).drew
  exact ⟨A2, c2, rfl, own_base ho2 hb3.size, hb3.trans (hb2.mono hb3.size)⟩
theorem specSetLinkTop_shut {w : World} {n c : Nat} {A : Option Addr} {s : Nat → ByteArray} (k x : Int) (hs : Sl w w.heap.size A n (fun i => .string (s i))) (hsz : ∀ i, i < n → (s i).size ≤ 9223372036854775807) (hn : n ≤ c) (hn2 : n ≤ 9223372036854775807)
    (ho : ¬ opens n s) :
    Calls Try.prog 19 #[.slice A n c, .int .i64 k, .int .i64 x] w fun r w' => r = .returned (.tuple #[.slice none 0 0, .int .i64 (openCode n s)]) ∧ Below w.heap.size w w' := by
  have HO := Lib.hid (specOpen hs hsz hn hn2)
  have hne := openCode_ne n s
  have HL := Lib.hid ho
  obtain ⟨code, hcode⟩ : ∃ code, openCode n s = code := ⟨_, rfl⟩
  rw [hcode] at hne ⊢
  have HCD := Lib.hid hcode
  clear ho hs hsz hcode
  rcases hne with rfl | rfl
  all_goals
    go_enter Try.func19, Try.ntmps19
    go_wp2_with (go_at_call 34; refine HO.out.mono ?_; rintro r w1 ⟨_, h1⟩; have h2 := h1 HL.out; rw [HCD.out] at h2; obtain ⟨rfl, hb1⟩ := h2)
    go_ret2
    exact ⟨rfl, hb1⟩
theorem specSetLinkTop_range {w : World} {n c : Nat} {A : Option Addr} {s : Nat → ByteArray} (k x : Int) (hs : Sl w w.heap.size A n (fun i => .string (s i))) (hsz : ∀ i, i < n → (s i).size ≤ 9223372036854775807) (hn : n ≤ c) (hn2 : n ≤ 9223372036854775807)
    (ho : opens n s) (hkx : ¬ (0 ≤ k ∧ k < n ∧ 0 ≤ x ∧ x ≤ 255)) :
    Calls Try.prog 19 #[.slice A n c, .int .i64 k, .int .i64 x] w fun r w' => r = .returned (.tuple #[.slice none 0 0, .int .i64 2]) ∧ Below w.heap.size w w' := by
  have HO := Lib.hid (specOpen hs hsz hn hn2)
  have hf := shape_facts ho.1
  obtain ⟨z, hz⟩ : ∃ z, (s 0).size = z := ⟨_, rfl⟩
  rw [hz] at hf
  have HZ := Lib.hid hz
  have HL := Lib.hid ho
  clear ho hs hsz hz
  by_cases hk : 0 ≤ k ∧ k < n
  · have hw1 : (decide ((0 : Int) ≤ k) && decide (k ≤ (n : Int) - 1)) = true := by simp; omega
    have hw2 : (decide ((0 : Int) ≤ x) && decide (x ≤ 255)) = false := by
      rw [Bool.eq_false_iff]
      intro h
      simp at h
      omega
    clear hkx
    go_enter Try.func19, Try.ntmps19
    go_wp2_with (first
      | (go_at_call 34; refine HO.out.mono ?_; rintro r w1 ⟨h1, _⟩; obtain ⟨p, rfl, ow⟩ := h1 HL.out; rw [HZ.out] at ow; obtain ⟨g, cc, hc, hcap, hb1, hp, hg⟩ := ow; have c0 := hc.c0)
      | (go_at_call 38; refine (l00In_any _ _ _ _).mono ?_; (first | rw [hw1] | rw [hw2]); rintro e w' ⟨rfl, rfl⟩))
    go_ret2
    exact ⟨rfl, hb1⟩
  · have hw1 : (decide ((0 : Int) ≤ k) && decide (k ≤ (n : Int) - 1)) = false := by
      rw [Bool.eq_false_iff]
      intro h
      simp at h
      omega
    clear hkx hk
    go_enter Try.func19, Try.ntmps19
    go_wp2_with (first
      | (go_at_call 34; refine HO.out.mono ?_; rintro r w1 ⟨h1, _⟩; obtain ⟨p, rfl, ow⟩ := h1 HL.out; rw [HZ.out] at ow; obtain ⟨g, cc, hc, hcap, hb1, hp, hg⟩ := ow; have c0 := hc.c0)
      | (go_at_call 38; refine (l00In_any _ _ _ _).mono ?_; rw [hw1]; rintro e w' ⟨rfl, rfl⟩))
    go_ret2
    exact ⟨rfl, hb1⟩
end Go.Proofs.Ytbdabciaaaeofaa
