/-
  An empty tree: the root and blocks of zeros.
-/
import Derived.Test.YtjcdomjaicdpjaaMarks
import Derived.Test.YtjcdomjaicdpjaaGf
namespace Go.Proofs.Ytjcdomjaicdpjaa
open Go Go.ChangeShapes Go.WideShapes Go.ChangeAt Go.RowKit lib
set_option linter.unusedVariables false
set_option maxRecDepth 100000
/-- byte 1 makes the sum of all bytes zero -/
def sealU (u : Nat → UInt8) : Nat → UInt8 := upd (upd u 1 0) 1 (0 - usum (upd u 1 0) 32)
def rootU (n : Nat) : Nat → UInt8 := upd (upd (upd (fun _ => 0) 0 1) 2 (UInt8.ofNat n)) 12 1
theorem l18Seal_any (g c : Nat) (u : Nat → UInt8) (w : World) (hr : BRow w 5 g 32 u) :
    Calls Try.prog 42 #[.slice (some ⟨g, 0, none⟩) 32 c] w fun e w' => e = .returned (.string (bstr 32 (sealU u))) ∧ BRow w' 5 g 32 (sealU u) ∧ w.grownBy w' (some g) := by
  have c1 := hr.cell (i := 1) (by omega)
  have f1 := hr.frozen (i := 1) (by omega)
  go_enter Try.func42, Try.ntmps42
  go_wp2
  have hr1 := hr.set (i := 1) 0 (y := 0) rfl
  obtain ⟨v, hv⟩ : ∃ v, v = upd u 1 0 := ⟨_, rfl⟩
  rw [← hv] at hr1
  obtain ⟨w1, hw1⟩ : ∃ w1, w1 = w.setCell ⟨g, 1, none⟩ (.int .u8 0) := ⟨_, rfl⟩
  have hg1 : w.grownBy w1 (some g) := by rw [hw1]; exact only_setCell (only_refl _ _) (.inl rfl) _
  rw [← hw1] at hr1 ⊢
  have HV := Lib.hid hv
  clear hw1 c1 f1 hr hv
  go_loop [3, 4] (fun s3 s4 => ∃ k : Nat, k ≤ 32 ∧ s4 = .int .i64 k ∧ s3 = .int .u8 ((usum v k).toNat : Int)) (fun _ i => 32 - (intOf i).toNat)
  case atStart => exact ⟨0, by omega, rfl, rfl⟩
  case round =>
    obtain ⟨k, hk, rfl, rfl⟩ := hrel
    by_cases hlt : k < 32
    · have hc := hr1.cell hlt
      go_wp2
      go_round
      case rel =>
        exact ⟨k + 1, by omega, by go_num, congrArg (Value.int .u8) (by rw [usum, UInt8.toNat_add]; omega)⟩
      case measure => simp [intOf]; omega
    · obtain rfl : k = 32 := by omega
      have c1 := hr1.cell (i := 1) (by omega)
      have f1 := hr1.frozen (i := 1) (by omega)
      have hr2 := hr1.set (i := 1) (0 - usum v 32) (neg_u8 _)
      go_wp2_with (refine wpList_bstr 26 9 5 (.tmp 23) rfl rfl Try.underlying26 Try.underlying5 Try.underlying9 rfl hr2.sl (by simp) ?_)
      go_ret
      have e : upd v 1 (0 - usum v 32) = sealU u := by rw [HV.out]; rfl
      rw [e] at hr2
      exact ⟨by rw [← e]; rfl, hr2, only_setCell hg1 (.inl rfl) _⟩
theorem infoU8 : (Try.prog.info? 5).map (fun i => (i.zero, i.size, i.bytes)) = some (some (.int .u8 0), 1, 1) := by kernel_rfl
theorem infoStr : (Try.prog.info? 9).map (fun i => (i.zero, i.size, i.bytes)) = some (some (.string .empty), 1, 16) := by kernel_rfl
theorem l01Zeros_any (n : Int) (w : World) (h0 : 0 ≤ n) (h1 : n ≤ 1048576) : Calls Try.prog 43 #[.int .i64 n] w fun e w' => e = .returned (.string (bstr n.toNat fun _ => 0)) ∧ Below w.heap.size w w' := by
  obtain ⟨m, rfl⟩ := Int.eq_ofNat_of_zero_le h0
  rw [Int.toNat_natCast]
  have hmk := run_mk (P := Try.prog) 26 5 (.int .u8 0) 1 1 Try.underlying26 infoU8 (by omega) m (by omega)
  simp only [Nat.mul_one, Value.cells] at hmk
  have hr := (BRow.made w 5 m)
  go_enter Try.func43, Try.ntmps43
  go_wp2_with (refine wpList_bstr 26 9 5 (.tmp 4) rfl rfl Try.underlying26 Try.underlying5 Try.underlying9 rfl hr.sl (by simp) ?_)
  go_ret
  exact ⟨rfl, (Below.refl _ _).alloc (Nat.le_refl _) _⟩
def fmtL (n : Nat) : List Value := (List.range n).map fun (i : Nat) => Value.string (bstr 32 (if i = 0 then sealU (rootU n) else fun _ => 0))
theorem l18Format_any (n : Nat) (w : World) (h0 : 4 ≤ n) (h1 : n ≤ 128) : Calls Try.prog 37 #[.int .i64 n] w fun e w' => ∃ A c, e = .returned (.slice A n c) ∧ w'.ownsRow w.heap.size 9 1 (.slice A n c) n (fmtL n) ∧ Below w.heap.size w w' := by
  have hmk : ∀ W : World, (Instr.makeSlice 26 (.int .i64 32) (.int .i64 32)).run Try.prog W = .ok (.slice (some ⟨W.heap.size, 0, none⟩) 32 32) (W.alloc (.cells (madeCells #[.int .u8 0] 32) 5)) := fun W => by
    have h := run_mk (P := Try.prog) 26 5 (.int .u8 0) 1 1 Try.underlying26 infoU8 (by omega) 32 (by omega) W
    simp only [Nat.mul_one, Value.cells] at h
    exact h
  obtain ⟨C, hC⟩ : ∃ C, C = madeCells #[Value.int .u8 0] 32 := ⟨_, rfl⟩
  have hCs : C.size = 32 := by rw [hC]; exact size_madeCells _ _
  have hCi : ∀ i, i < 32 → C[i]? = some (.int .u8 0) := fun i hi => by rw [hC]; simp [madeCells, hi, Nat.mod_one]
  simp only [← hC] at hmk
  clear hC
  have m0 := hCi 0 (by omega)
  have m2 := hCi 2 (by omega)
  have m12 := hCi 12 (by omega)
  have hb0 : IsB C 32 (fun _ => 0) := ⟨by rw [hCs]; exact Nat.le_refl _, fun i hi => hCi i hi⟩
  have hb3 := ((hb0.set (i := 0) 1 (y := 1) rfl).set (i := 2) (UInt8.ofNat n) (y := n) (by rw [UInt8.toNat_ofNat']; omega)).set (i := 12) 1 (y := 1) rfl
  have hr := BRow.of (w := w) (e := 5) hb3
  clear hCi hCs hb0 hb3
  go_enter Try.func37, Try.ntmps37
  go_wp2_with (go_at_call 42; refine (l18Seal_any w.heap.size 32 (rootU n) _ hr).mono ?_; rintro e w1 ⟨rfl, hr1, hg1⟩)
  have hB1 : Below w.heap.size w w1 := ((Below.refl _ _).alloc (Nat.le_refl _) _).trans (below_only hg1 (Nat.le_refl _) (by simp))
  have hz1 := hB1.size
  clear hr hr1 hg1 m0 m2 m12 hmk
  go_loopw [4] (fun s4 wr => ∃ (k : Nat) (A : Option Addr) (c : Nat), 1 ≤ k ∧ k ≤ n ∧ s4 = .slice A k c ∧ wr.ownsRow w.heap.size 9 1 (.slice A k c) k ((List.range k).map fun (i : Nat) => Value.string (bstr 32 (if i = 0 then sealU (rootU n) else fun _ => 0))) ∧ Below w.heap.size w wr) (fun v _ => n - sliceLen v)
  case atStart => exact ⟨1, _, 1, Nat.le_refl _, by omega, rfl, own_one w1 _ _ _ hz1, hB1.alloc hz1 _⟩
  case round =>
    obtain ⟨k, A, c, hk1, hk, rfl, ho, hb⟩ := hrel
    have hz := hb.size
    by_cases hlt : k < n
    · have HO := Lib.hid ho
      clear ho
      go_wp2_with (first
        | (go_at_call 43; refine (l01Zeros_any _ _ (by omega) (by omega)).mono ?_; rintro e w2 ⟨rfl, hb2⟩)
        | (at_builtin; refine wpList_push (.tmp 21) (.tmp 23) 36 w.heap.size 9 (.string .empty) _ 16 _ k _ (own_below HO.out hb2) rfl rfl Try.underlying36 infoStr rfl rfl rfl rfl rfl (by omega) (by omega) (Nat.le_trans hz hb2.size) ?_; intro A' c' w3 ho3 hb3))
      go_roundw
      case rel =>
        refine ⟨k + 1, _, c', by omega, by omega, rfl, ?_, hb.trans ((hb2.mono hz).trans hb3)⟩
        rw [List.range_succ, List.map_append]
        simp only [List.map_cons, List.map_nil, if_neg (show ¬ k = 0 by omega)]
        exact ho3
      case measure => simp [sliceLen]; omega
    · go_wp2
      go_ret
      obtain rfl : k = n := by omega
      exact ⟨A, c, rfl, ho, hb⟩
theorem specFormatTree_in (n : Nat) (w : World) (h0 : 4 ≤ n) (h1 : n ≤ 128) : Calls Try.prog 22 #[.int .i64 n] w fun e w' => ∃ A c, e = .returned (.tuple #[.slice A n c, .int .i64 0]) ∧ w'.ownsRow w.heap.size 9 1 (.slice A n c) n (fmtL n) ∧ Below w.heap.size w w' := by
  have d1 : (decide ((4:Int) ≤ (n : Int)) && decide ((n : Int) ≤ 128)) = true := by simp; omega
  go_enter Try.func22, Try.ntmps22
  go_wp2_with (first | (go_at_call 30; refine (l00In_any _ _ _ _).mono ?_; rintro e w' ⟨rfl, rfl⟩) | (go_at_call 37; refine (l18Format_any n _ h0 h1).mono ?_; rintro e w1 ⟨A, c, rfl, ho, hb⟩))
  go_ret2
  exact ⟨A, c, rfl, ho, hb⟩
theorem specFormatTree_out (n : Int) (w : World) (h : ¬ (4 ≤ n ∧ n ≤ 128)) : Calls Try.prog 22 #[.int .i64 n] w fun e w' => ∃ A c, e = .returned (.tuple #[.slice A 0 c, .int .i64 2]) ∧ w'.ownsRow w.heap.size 9 1 (.slice A 0 c) 0 [] ∧ Below w.heap.size w w' := by
  have d1 : (decide ((4:Int) ≤ n) && decide (n ≤ 128)) = false := by simp; omega
  clear h
  go_enter Try.func22, Try.ntmps22
  go_wp2_with (go_at_call 30; refine (l00In_any _ _ _ _).mono ?_; rintro e w' ⟨rfl, rfl⟩)
  go_ret2
  exact ⟨_, 0, rfl, ⟨rfl, .inr ⟨w.heap.size, 0, #[], rfl, Nat.le_refl _, heap_alloc_new w _, Nat.le_refl _, by simp [maxLen], rfl, rfl⟩⟩, (Below.refl _ _).alloc (Nat.le_refl _) _⟩
theorem byteSum_any (A : Option Addr) (n c : Nat) (u : Nat → UInt8) (w : World) (hn : n ≤ 1048576) (hs : Sl w w.heap.size A n (fun i => .int .u8 ((u i).toNat : Int))) :
    Calls Try.prog 46 #[.slice A n c] w fun e w' => e = .returned (.int .u8 ((usum u n).toNat : Int)) ∧ w = w' := by
  go_enter Try.func46, Try.ntmps46
  go_wp2
  go_loop [3, 8] (fun s3 s8 => ∃ k : Nat, k ≤ n ∧ s8 = .int .i64 k ∧ s3 = .int .u8 ((usum u k).toNat : Int)) (fun _ i => n - (intOf i).toNat)
  case atStart => exact ⟨0, by omega, rfl, rfl⟩
  case round =>
    obtain ⟨k, hk, rfl, rfl⟩ := hrel
    by_cases hlt : k < n
    · obtain ⟨b, o, rfl, hb, hc⟩ := hs k hlt
      clear hs
      go_wp2
      go_round
      case rel => exact ⟨k + 1, by omega, by go_num, congrArg (Value.int .u8) (by rw [usum, UInt8.toNat_add]; omega)⟩
      case measure => simp [intOf]; omega
    · go_wp2
      go_ret
      obtain rfl : k = n := by omega
      exact ⟨rfl, rfl⟩
theorem seal_any (g c : Nat) (u : Nat → UInt8) (w : World) (hr : BRow w 5 g 32 u) :
    Calls Try.prog 45 #[.slice (some ⟨g, 0, none⟩) 32 c] w fun e w' => e = .returned (.tuple #[]) ∧ BRow w' 5 g 32 (sealU u) ∧ w.grownBy w' (some g) := by
  have c1 := hr.cell (i := 1) (by omega)
  have f1 := hr.frozen (i := 1) (by omega)
  have hr1 := hr.set (i := 1) 0 (y := 0) rfl
  have hr2 := hr1.set (i := 1) (0 - usum (upd u 1 0) 32) (neg_u8 _)
  have HR1 := Lib.hid hr1
  have HR2 := Lib.hid hr2
  clear hr1 hr2 hr
  go_enter Try.func45, Try.ntmps45
  go_wp2_with (go_at_call 46; refine (byteSum_any _ 32 c (upd u 1 0) _ (by omega) HR1.out.sl).mono ?_; rintro e w1 ⟨rfl, rfl⟩)
  go_end0
  exact ⟨rfl, HR2.out, only_setCell (only_setCell (only_refl _ _) (.inl rfl) _) (.inl rfl) _⟩
theorem infoB : (Try.prog.info? 26).map (fun i => (i.zero, i.size, i.bytes)) = some (some (.slice none 0 0), 1, 24) := by kernel_rfl
/-- a tree that can be changed: the struct in block gp, its row of blocks in gr, block i in 'bl i' -/
def TreeW (w : World) (gp gr n B : Nat) (bl cp : Nat → Nat) (u : Nat → Nat → UInt8) : Prop :=
  (∃ cap, Row w gp 58 #[.slice (some ⟨gr, 0, none⟩) n cap]) ∧ (∃ cs, Row w gr 26 cs ∧ n ≤ cs.size ∧ ∀ i, i < n → cs[i]? = some (.slice (some ⟨bl i, 0, none⟩) 32 (cp i))) ∧
  (∀ i, i < n → BRow w 5 (bl i) 32 (u i) ∧ B ≤ bl i) ∧ (∀ i j, i < n → j < n → bl i = bl j → i = j) ∧ B ≤ gp ∧ B ≤ gr
section
variable {w w' : World} {gp gr n B : Nat} {bl cp : Nat → Nat} {u : Nat → Nat → UInt8}
theorem TreeW.set (h : TreeW w gp gr n B bl cp u) {j : Nat} (hj : j < n) {x : Nat → UInt8} (hx : BRow w' 5 (bl j) 32 x) (hg : w.grownBy w' (some (bl j))) :
    TreeW w' gp gr n B bl cp (fun i => if i = j then x else u i) := by
  obtain ⟨⟨cap, h1⟩, ⟨cs, h2, h3, h4⟩, h5, h6, h7, h8⟩ := h
  refine ⟨⟨cap, h1.grown hg (fun e => (h5 j hj).1.neRow h1 (by decide) (by injection e with e; exact e.symm))⟩, ⟨cs, h2.grown hg (fun e => (h5 j hj).1.neRow h2 (by decide) (by injection e with e; exact e.symm)), h3, h4⟩, fun i hi => ?_, h6, h7, h8⟩
  by_cases hij : i = j
  · subst hij; simp only [if_true]; exact ⟨hx, (h5 i hi).2⟩
  · simp only [if_neg hij]
    exact ⟨(h5 i hi).1.grown hg (fun e => hij (h6 i j hi hj (by injection e))), (h5 i hi).2⟩
theorem TreeW.below (h : TreeW w gp gr n B bl cp u) (hb : Below w.heap.size w w') : TreeW w' gp gr n B bl cp u := by
  obtain ⟨⟨cap, h1⟩, ⟨cs, h2, h3, h4⟩, h5, h6, h7, h8⟩ := h
  exact ⟨⟨cap, h1.below hb h1.lt⟩, ⟨cs, h2.below hb h2.lt, h3, h4⟩, fun i hi => ⟨(h5 i hi).1.below hb (h5 i hi).1.lt, (h5 i hi).2⟩, h6, h7, h8⟩
end
/-- what the bitmap's byte becomes -/
def bitU (k : Nat) : UInt8 := UInt8.ofNat (2 ^ (k % 8))
def markU (u : Nat → UInt8) (k : Nat) (used : Bool) : Nat → UInt8 := sealU (upd u (12 + k / 8) (if used then u (12 + k / 8) ||| bitU k else u (12 + k / 8) &&& (255 - bitU k)))
theorem bitU_nat (k : Nat) : (bitU k).toNat = 2 ^ (k % 8) ∧ 2 ^ (k % 8) ≤ 128 := by
  have h : 2 ^ (k % 8) ≤ 2 ^ 7 := Nat.pow_le_pow_right (by omega) (by omega)
  refine ⟨?_, by omega⟩
  rw [bitU, UInt8.toNat_ofNat']
  exact Nat.mod_eq_of_lt (Nat.lt_of_le_of_lt h (by decide))
theorem bit_int (k : Nat) : (2 : Int) ^ (k % 8) % 256 = ((bitU k).toNat : Int) := by
  obtain ⟨h1, h2⟩ := bitU_nat k
  rw [h1]
  have : ((2 ^ (k % 8) : Nat) : Int) = (2 : Int) ^ (k % 8) := by simp
  omega
theorem or_bit (x : UInt8) (k : Nat) : bits .or .u8 (x.toNat : Int) ((2 : Int) ^ (k % 8) % 256) = ((x ||| bitU k).toNat : Int) := by
  rw [bit_int, u8_or_nat _ _ (UInt8.toNat_lt _) (UInt8.toNat_lt _), UInt8.toNat_or]
theorem mark_true (gp gr n B k : Nat) (x : Int) (bl cp : Nat → Nat) (u : Nat → Nat → UInt8) (w : World) (hx : x = k) (ht : TreeW w gp gr n B bl cp u) (hk : k < n) (hn : n ≤ 128) :
    Calls Try.prog 44 #[.pointer (some ⟨gp, 0, none⟩), .int .i64 x, .bool true] w fun e w' => e = .returned (.tuple #[]) ∧ TreeW w' gp gr n B bl cp (fun i => if i = 0 then markU (u 0) k true else u i) ∧ w.grownBy w' (some (bl 0)) := by
  subst hx
  have HT := Lib.hid ht
  obtain ⟨⟨cap, h1⟩, ⟨cs, h2, h3, h4⟩, h5, h6, h7, h8⟩ := ht
  have c1 : w.cell? ⟨gp, 0, none⟩ = some (.slice (some ⟨gr, 0, none⟩) n cap) := h1.cell 0
  have c2 : w.cell? ⟨gr, 0, none⟩ = some (.slice (some ⟨bl 0, 0, none⟩) 32 (cp 0)) := (h2.cell 0).trans (h4 0 (by omega))
  have hq : k / 8 < 16 := by omega
  obtain ⟨q, hqq⟩ : ∃ q, q = 12 + k / 8 := ⟨_, rfl⟩
  have h0 := (h5 0 (by omega)).1
  have c3 := h0.cell (i := q) (by omega)
  have f3 := h0.frozen (i := q) (by omega)
  have e1 : (12 : Int) + (k : Int) / 8 = (q : Int) := by omega
  have e2 : (2 : Int) ^ (k % 8) ≤ 128 := by
    have : 2 ^ (k % 8) ≤ 2 ^ 7 := Nat.pow_le_pow_right (by omega) (by omega)
    exact_mod_cast this
  have hq32 : q < 32 := by omega
  have hr := h0.set (i := q) (u 0 q ||| bitU k) (or_bit _ _)
  have HQ := Lib.hid hqq
  clear h1 h2 h3 h4 h5 h6 h7 h8 hqq
  go_enter Try.func44, Try.ntmps44
  go_wp2_with fail
  refine (seal_any (bl 0) (cp 0) _ _ hr).mono ?_
  rintro e w1 ⟨rfl, hr1, hg1⟩
  go_wp2
  go_end0
  have hg : w.grownBy w1 (some (bl 0)) := only_trans (only_setCell (only_refl _ _) (.inl rfl) _) hg1
  refine ⟨rfl, ?_, hg⟩
  have h := HT.out.set (j := 0) (by omega) hr1 hg
  unfold markU
  rw [← HQ.out]
  exact h
theorem mark_root (k : Nat) : markU (upd (upd (fun _ => 0) 0 1) 2 (UInt8.ofNat k)) 0 true = sealU (rootU k) := by
  have x12 : (upd (upd (fun _ => 0) 0 1) 2 (UInt8.ofNat k)) 12 = 0 := by simp [upd]
  simp only [markU, if_true, Nat.zero_div, Nat.add_zero, x12]
  rw [show (0 : UInt8) ||| bitU 0 = 1 by decide]
  unfold rootU
  exact Eq.refl _
set_option maxHeartbeats 1000000 in
theorem newTree_any (n : Nat) (w : World) (h0 : 4 ≤ n) (h1 : n ≤ 128) : Calls Try.prog 39 #[.int .i64 n] w fun e w' => ∃ gp gr bl cp, e = .returned (.pointer (some ⟨gp, 0, none⟩)) ∧ TreeW w' gp gr n w.heap.size bl cp (fun i => if i = 0 then sealU (rootU n) else fun _ => 0) ∧ Below w.heap.size w w' := by
  have hmk : ∀ W : World, (Instr.makeSlice 26 (.int .i64 32) (.int .i64 32)).run Try.prog W = .ok (.slice (some ⟨W.heap.size, 0, none⟩) 32 32) (W.alloc (.cells (madeCells #[.int .u8 0] 32) 5)) := fun W => by
    have h := run_mk (P := Try.prog) 26 5 (.int .u8 0) 1 1 Try.underlying26 infoU8 (by omega) 32 (by omega) W
    simp only [Nat.mul_one, Value.cells] at h
    exact h
  obtain ⟨i0, hi0, hz0, hz1, hz2⟩ := info_parts infoB
  go_enter Try.func39, Try.ntmps39
  go_wp2
  go_loopw [7] (fun s7 wr => ∃ (k : Nat) (v : Value) (bl : Nat → Nat), k ≤ n ∧ s7 = .int .i64 k ∧ Row wr w.heap.size 58 #[v] ∧ wr.ownsRow (w.heap.size + 1) 26 1 v k ((List.range k).map fun (i : Nat) => Value.slice (some ⟨bl i, 0, none⟩) 32 32) ∧
    (∀ i, i < k → BRow wr 5 (bl i) 32 (fun _ => 0) ∧ w.heap.size ≤ bl i) ∧ (∀ i j, i < k → j < k → bl i = bl j → i = j) ∧ Below w.heap.size w wr) (fun i _ => n - (intOf i).toNat)
  case atStart => exact ⟨0, _, fun _ => 0, by omega, rfl, Row.new _ _ _, World.ownsRow_nil _ _ _ _, fun i hi => by omega, fun i j hi => by omega, (Below.refl _ _).alloc (Nat.le_refl _) _⟩
  case round =>
    obtain ⟨k, v, bl, hk, rfl, hrow, ho, hbr, hinj, hb⟩ := hrel
    have hz := hb.size
    have hgl := hrow.lt
    by_cases hlt : k < n
    · have hc : wr.cell? ⟨w.heap.size, 0, none⟩ = some v := hrow.cell 0
      have hf : wr.frozen? ⟨w.heap.size, 0, none⟩ = false := hrow.frozen (by simp)
      have hne : some w.heap.size ≠ v.ownBlock := own_ne ho hrow (by decide)
      have HO := Lib.hid ho
      have HB := Lib.hid hbr
      have HJ := Lib.hid hinj
      clear ho hbr hinj
      go_wp2_with fail
      go_region_law (first | (refine step_append_lies _ (by rfl) _ _ _ (by rfl) (w.heap.size + 1) 26 i0 _ 1 24 Try.underlying56 hi0 hz0 hz1 hz2 rfl (by omega) v k _ (by rfl) (((HO.out.alloc _).alloc _).drew) ⟨wr.heap.size + 1, 0, none⟩ 1 1 [.slice (some ⟨wr.heap.size, 0, none⟩) 32 32] (by rfl) (by rfl) (news2 _ _ _ _) (by simp [Value.oneCell']) (by omega) (by simp only [maxLen]; omega) (by omega) (by simp; omega) (wr.heap.size + 2) (by simp) ?_; intro gg cap w3 ho3 hgrow hat hlt3; have hr3 := Row.grown (((hrow.alloc _).alloc _).drew) hgrow hne; have hf3 := hr3.frozen (i := 0) (by simp); have hc3 := hr3.cell 0))
      all_goals
        go_wp2
        go_roundw
        case rel =>
          have hb3 : Below w.heap.size wr w3 := (((Below.refl _ _).alloc hz _).alloc (by simp; omega) _).drew.grown hgrow (by simp; omega) (fun j hj => by have := own_lt HO.out j hj; omega)
          have hbw : Below wr.heap.size ((wr.alloc (.cells (madeCells #[.int .u8 0] 32) 5))) w3 → True := fun _ => trivial
          refine ⟨k + 1, _, fun i => if i = k then wr.heap.size else bl i, by omega, by go_num, hr3.set 0 _, ?_, ?_, ?_, (hb.trans hb3).setCell (Nat.le_refl _) _⟩
          · have h := ownsRow_setCell_below (a := ⟨w.heap.size, 0, none⟩) ho3 (by simp) (.slice (some ⟨gg, 0, none⟩) (k + 1) cap)
            have e : ((List.range (k + 1)).map fun (i : Nat) => Value.slice (some ⟨if i = k then wr.heap.size else bl i, 0, none⟩) 32 32) = ((List.range k).map fun (i : Nat) => Value.slice (some ⟨bl i, 0, none⟩) 32 32) ++ [.slice (some ⟨wr.heap.size, 0, none⟩) 32 32] := by
              rw [List.range_succ, List.map_append]
              congr 1
              · exact List.map_congr_left fun i hi => by rw [if_neg (by have := List.mem_range.1 hi; omega)]
              · simp
            rw [e]
            exact h
          · intro i hi
            by_cases hik : i = k
            · subst hik
              simp only [if_true]
              have hnew : BRow ((wr.alloc (.cells (madeCells #[.int .u8 0] 32) 5))) 5 wr.heap.size 32 (fun _ => 0) := BRow.made wr _ 32
              have hne2 : some wr.heap.size ≠ v.ownBlock := fun e => by have := (HO.out.lt _ e.symm).2; omega
              exact ⟨(((hnew.alloc _).drew).grown hgrow hne2).far (by simp; omega) _, hz⟩
            · simp only [if_neg hik]
              obtain ⟨h1, h2⟩ := HB.out i (by omega)
              exact ⟨((((h1.alloc _).alloc _).drew).grown hgrow (own_neB HO.out h1 (by decide))).far (h1.neRow hrow (by decide)) _, h2⟩
          · intro i j hi hj he
            have hlt' : ∀ i, i < k → bl i < wr.heap.size := fun i hi => (HB.out i hi).1.lt
            by_cases hik : i = k <;> by_cases hjk : j = k
            · omega
            · simp only [hik, if_true, if_neg hjk] at he
              have := hlt' j (by omega); omega
            · simp only [hjk, if_true, if_neg hik] at he
              have := hlt' i (by omega); omega
            · simp only [if_neg hik, if_neg hjk] at he
              exact HJ.out i j (by omega) (by omega) he
        case measure => simp [intOf]; omega
    · obtain rfl : k = n := by omega
      obtain ⟨gr, cap, rfl, hgr, hgrl⟩ := ho.form (by omega)
      obtain ⟨gr', cs, e1, _, hrr, hcs, hcc⟩ := own_row ho (by omega)
      simp only [Option.some.injEq, Addr.mk.injEq] at e1
      obtain ⟨rfl, _⟩ := e1
      have hcs' : k ≤ cs.size := by omega
      have hcc' : ∀ i, i < k → cs[i]? = some (.slice (some ⟨bl i, 0, none⟩) 32 32) := fun i hi => by
        rw [hcc i (by omega), List.getElem?_map, List.getElem?_range hi]; rfl
      have hgr' : w.heap.size ≤ gr := by omega
      have ht : TreeW wr w.heap.size gr k w.heap.size bl (fun _ => 32) (fun _ _ => 0) :=
        ⟨⟨cap, hrow⟩, ⟨cs, hrr, hcs', hcc'⟩, hbr, hinj, Nat.le_refl _, hgr'⟩
      have c1 : wr.cell? ⟨w.heap.size, 0, none⟩ = some (.slice (some ⟨gr, 0, none⟩) k cap) := hrow.cell 0
      have c2 : wr.cell? ⟨gr, 0, none⟩ = some (.slice (some ⟨bl 0, 0, none⟩) 32 32) := by rw [hrr.cell 0, hcc' 0 (by omega)]
      have hb0 := (hbr 0 (by omega)).1
      have hbl := (hbr 0 (by omega)).2
      have c3 := hb0.cell (i := 0) (by omega)
      have f3 := hb0.frozen (i := 0) (by omega)
      have c4 := hb0.cell (i := 2) (by omega)
      have f4 := hb0.frozen (i := 2) (by omega)
      have n1 : w.heap.size ≠ bl 0 := (hb0.neRow hrow (by decide)).symm
      have n2 : gr ≠ bl 0 := (hb0.neRow hrr (by decide)).symm
      have hb2 := (hb0.set (i := 0) 1 (y := 1) rfl).set (i := 2) (UInt8.ofNat k) (y := k) (by rw [UInt8.toNat_ofNat']; omega)
      have hg2 : wr.grownBy ((wr.setCell ⟨bl 0, 0, none⟩ (.int .u8 1)).setCell ⟨bl 0, 2, none⟩ (.int .u8 k)) (some (bl 0)) := only_setCell (p := ⟨bl 0, 2, none⟩) (only_setCell (p := ⟨bl 0, 0, none⟩) (only_refl _ _) (.inl rfl) _) (.inl rfl) _
      have ht2 := ht.set (j := 0) (by omega) hb2 hg2
      have HB2 := Lib.hid (below_only hg2 hbl hz)
      have HT2 := Lib.hid ht2
      clear ht2 hg2 hb2 ht hb0 hcc hcs hcc' hcs' hgr' hrr hinj hbr ho hrow hmk hi0 hz0 hz1 hz2
      go_wp2_with fail
      refine (mark_true w.heap.size gr k w.heap.size 0 _ bl _ _ _ rfl HT2.out (by omega) h1).mono ?_
      rintro e w1 ⟨rfl, ht3, hg3⟩
      have HT3 := Lib.hid ht3
      clear ht3
      go_wp2
      go_ret
      refine ⟨_, gr, bl, fun _ => 32, rfl, ?_, hb.trans (HB2.out.trans (below_only hg3 hbl (by have := HB2.out.size; omega)))⟩
      have h := HT3.out
      have e0 := mark_root k
      have e1 : (fun i => if i = 0 then markU ((fun i => if i = 0 then upd (upd (fun _ => 0) 0 1) 2 (UInt8.ofNat k) else fun _ => 0) 0) 0 true else (fun i => if i = 0 then upd (upd (fun _ => 0) 0 1) 2 (UInt8.ofNat k) else fun _ => 0) i) =
          fun i => if i = 0 then sealU (rootU k) else fun _ => (0 : UInt8) := by
        funext i
        by_cases hi : i = 0
        · subst hi; simp only [if_true, e0]
        · simp only [if_neg hi]
      rw [← e1]
      exact h
theorem treeDisk_any (gp gr n B : Nat) (bl cp : Nat → Nat) (u : Nat → Nat → UInt8) (w : World) (ht : TreeW w gp gr n B bl cp u) (hn : n ≤ 128) (h0 : 1 ≤ n) :
    Calls Try.prog 40 #[.pointer (some ⟨gp, 0, none⟩)] w fun e w' => ∃ A c, e = .returned (.slice A n c) ∧ w'.ownsRow w.heap.size 9 1 (.slice A n c) n ((List.range n).map fun (i : Nat) => Value.string (bstr 32 (u i))) ∧ Below w.heap.size w w' := by
  have HT := Lib.hid ht
  obtain ⟨⟨cap, h1⟩, ⟨cs, h2, h3, h4⟩, h5, h6, h7, h8⟩ := ht
  have c1 : w.cell? ⟨gp, 0, none⟩ = some (.slice (some ⟨gr, 0, none⟩) n cap) := h1.cell 0
  have hgl := h2.lt
  clear h1 h6 h7 h8
  go_enter Try.func40, Try.ntmps40
  go_wp2
  go_loopw [3, 11] (fun s3 s11 wr => ∃ (k : Nat) (v : Value), k ≤ n ∧ s11 = .int .i64 k ∧ s3 = v ∧ wr.ownsRow w.heap.size 9 1 v k ((List.range k).map fun (i : Nat) => Value.string (bstr 32 (u i))) ∧ Below w.heap.size w wr) (fun _ i _ => n - (intOf i).toNat)
  case atStart => exact ⟨0, _, by omega, rfl, rfl, World.ownsRow_nil _ _ _ _, Below.refl _ _⟩
  case round =>
    obtain ⟨k, v, hk, rfl, rfl, ho, hb⟩ := hrel
    have hz := hb.size
    by_cases hlt : k < n
    · have hc2 : wr.cell? ⟨gr, k, none⟩ = some (.slice (some ⟨bl k, 0, none⟩) 32 (cp k)) := (hb.cell (p := ⟨gr, k, none⟩) hgl).trans ((h2.cell k).trans (h4 k hlt))
      have hbr := (h5 k hlt).1.below hb (h5 k hlt).1.lt
      have HO := Lib.hid ho
      have H5 := Lib.hid h5
      have H4 := Lib.hid h4
      clear ho h5 h4
      go_wp2_with (first
        | (refine wpList_bstr 26 9 5 (.tmp 16) rfl rfl Try.underlying26 Try.underlying5 Try.underlying9 rfl hbr.sl (by simp) ?_)
        | (at_builtin; refine wpList_push (.tmp 15) (.tmp 18) 36 w.heap.size 9 (.string .empty) _ 16 _ k _ HO.out rfl rfl Try.underlying36 infoStr rfl rfl rfl rfl rfl (by omega) (by omega) hz ?_; intro A' c' w3 ho3 hb3))
      go_roundw
      case rel =>
        refine ⟨k + 1, _, by omega, by go_num, rfl, ?_, hb.trans hb3⟩
        rw [List.range_succ, List.map_append]
        exact ho3
      case measure => simp [intOf]; omega
    · obtain rfl : k = n := by omega
      obtain ⟨g, c, rfl, _, _⟩ := ho.form (by omega)
      go_wp2
      go_ret
      exact ⟨_, c, rfl, ho, hb⟩
theorem implFormatTree_in (n : Nat) (w : World) (h0 : 4 ≤ n) (h1 : n ≤ 128) : Calls Try.prog 23 #[.int .i64 n] w fun e w' => ∃ A c, e = .returned (.tuple #[.slice A n c, .int .i64 0]) ∧ w'.ownsRow w.heap.size 9 1 (.slice A n c) n (fmtL n) ∧ Below w.heap.size w w' := by
  have d1 : (decide ((4:Int) ≤ (n : Int)) && decide ((n : Int) ≤ 128)) = true := by simp; omega
  go_enter Try.func23, Try.ntmps23
  go_wp2_with (first
    | (go_at_call 38; refine (within_any _ _ _ _).mono ?_; rintro e w' ⟨rfl, rfl⟩)
    | (go_at_call 39; refine (newTree_any n _ h0 h1).mono ?_; rintro e w1 ⟨gp, gr, bl, cp, rfl, ht, hb⟩)
    | (go_at_call 40; refine (treeDisk_any gp gr n _ bl cp _ _ ht h1 (by omega)).mono ?_; rintro e w2 ⟨A, c, rfl, ho, hb2⟩))
  go_ret2
  exact ⟨A, c, rfl, own_base ho hb.size, hb.trans (hb2.mono hb.size)⟩
theorem implFormatTree_out (n : Int) (w : World) (h : ¬ (4 ≤ n ∧ n ≤ 128)) : Calls Try.prog 23 #[.int .i64 n] w fun e w' => ∃ A c, e = .returned (.tuple #[.slice A 0 c, .int .i64 2]) ∧ w'.ownsRow w.heap.size 9 1 (.slice A 0 c) 0 [] ∧ Below w.heap.size w w' := by
  have d1 : (decide ((4:Int) ≤ n) && decide (n ≤ 128)) = false := by simp; omega
  clear h
  go_enter Try.func23, Try.ntmps23
  go_wp2_with (go_at_call 38; refine (within_any _ _ _ _).mono ?_; rintro e w' ⟨rfl, rfl⟩)
  go_ret2
  exact ⟨none, 0, rfl, World.ownsRow_nil _ _ _ _, Below.refl _ _⟩
end Go.Proofs.Ytjcdomjaicdpjaa
