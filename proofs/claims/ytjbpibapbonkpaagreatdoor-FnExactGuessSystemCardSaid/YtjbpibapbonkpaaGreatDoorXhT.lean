/-
  Disks of extents: the header, the program's side.
-/
import Derived.Test.YtjbpibapbonkpaaGreatDoorXlT
import Derived.Deep.DeepCutAuto
import Derived.Deep.RegionHeld3
import Derived.Test.YtjbpibapbonkpaaGreatDoorChainHead
import Derived.Test.YtjbpibapbonkpaaGreatDoorWk1
namespace Go.Proofs.YtjbpibapbonkpaaGreatDoor
open Go Go.ChangeShapes Go.WideShapes Go.ChangeAt Go.RowKit lib
set_option linter.unusedVariables false
set_option linter.unusedSimpArgs false
set_option maxRecDepth 100000
set_option maxHeartbeats 2000000 in
theorem extentHeader_any (n z t : Nat) (w : World) (hn : n ≤ 128) (hz8 : 8 ≤ z) (hz32 : z ≤ 32) : Calls Tryz.prog 42 #[layX n z (entsX n) t] w fun r w' => r = .returned (.string (hdrX n z)) ∧ Below w.heap.size w w' := by
  have wn : IntKind.u8.wrap (n : Int) = (n : Int) := by rw [IntKind.wrap_u8]; omega
  have wz : IntKind.u8.wrap (z : Int) = (z : Int) := by rw [IntKind.wrap_u8]; omega
  have hh : hdrX n z = head5 n z ++ zerosB (z - 5) := rfl
  have h4 : (⟨#[69, 88]⟩ : ByteArray) ++ ⟨#[UInt8.ofNat n, UInt8.ofNat z, UInt8.ofNat (entsX n)]⟩ = head5 n z := rfl
  have hz : (head5 n z).size = 5 := head5_size n z
  have hE : entsX n ≤ 32 := by unfold entsX; omega
  rw [hh]
  generalize head5 n z = H at h4 hz ⊢
  generalize entsX n = E at *
  have wE : IntKind.u8.wrap (E : Int) = (E : Int) := by rw [IntKind.wrap_u8]; omega
  clear hh
  obtain ⟨y, ey⟩ : ∃ y, z - 5 = y := ⟨_, rfl⟩
  have hy : (z : Int) - 5 = (y : Int) := by omega
  have hwy : IntKind.i64.wrap (y : Int) = (y : Int) := by rw [IntKind.wrap_i64]; omega
  rw [ey]
  have zy : (zerosB y).size = y := by unfold zerosB; simp [ByteArray.size]
  have a1 : ∀ W : World, (Op.stringOp .add H (zerosB y)).run Tryz.prog W = .ok (.string (H ++ zerosB y)) W := fun W => run_string_add_sum _ _ _ (by omega)
  have keep1 : ∀ a b : World, (a.cell? ⟨w.heap.size, 0, none⟩ = some (.int .i64 n) ∧ a.cell? ⟨w.heap.size, 1, none⟩ = some (.int .i64 z) ∧ a.cell? ⟨w.heap.size, 2, none⟩ = some (.int .i64 E) ∧ Below w.heap.size w a ∧ w.heap.size < a.heap.size) → Below a.heap.size a b →
      (b.cell? ⟨w.heap.size, 0, none⟩ = some (.int .i64 n) ∧ b.cell? ⟨w.heap.size, 1, none⟩ = some (.int .i64 z) ∧ b.cell? ⟨w.heap.size, 2, none⟩ = some (.int .i64 E) ∧ Below w.heap.size w b ∧ w.heap.size < b.heap.size) := fun a b h hb =>
    ⟨(hb.cell (p := ⟨w.heap.size, 0, none⟩) h.2.2.2.2).trans h.1, (hb.cell (p := ⟨w.heap.size, 1, none⟩) h.2.2.2.2).trans h.2.1, (hb.cell (p := ⟨w.heap.size, 2, none⟩) h.2.2.2.2).trans h.2.2.1, h.2.2.2.1.trans (hb.mono h.2.2.2.1.size), Nat.lt_of_lt_of_le h.2.2.2.2 hb.size⟩
  have R0 := Rw.new w 34 #[.int .i64 n, .int .i64 z, .int .i64 E, .int .i64 t]
  have S0 := Lib.hid (show (w.alloc (.cells #[.int .i64 n, .int .i64 z, .int .i64 E, .int .i64 t] 34)).cell? ⟨w.heap.size, 0, none⟩ = some (.int .i64 n) ∧ (w.alloc (.cells #[.int .i64 n, .int .i64 z, .int .i64 E, .int .i64 t] 34)).cell? ⟨w.heap.size, 1, none⟩ = some (.int .i64 z) ∧ (w.alloc (.cells #[.int .i64 n, .int .i64 z, .int .i64 E, .int .i64 t] 34)).cell? ⟨w.heap.size, 2, none⟩ = some (.int .i64 E) ∧ Below w.heap.size w (w.alloc (.cells #[.int .i64 n, .int .i64 z, .int .i64 E, .int .i64 t] 34)) ∧ w.heap.size < (w.alloc (.cells #[.int .i64 n, .int .i64 z, .int .i64 E, .int .i64 t] 34)).heap.size from ⟨R0.cell 0, R0.cell 1, R0.cell 2, (Below.refl _ _).alloc (Nat.le_refl _) _, R0.lt⟩)
  have a0 : ∀ W : World, (Op.stringOp .add ⟨#[69, 88]⟩ ⟨#[UInt8.ofNat n, UInt8.ofNat z, UInt8.ofNat E]⟩).run Tryz.prog W = .ok (.string H) W := fun W => by rw [run_string_add_sum _ _ _ (by show 2 + 3 ≤ _; omega), h4]
  have tn : UInt8.ofNat (n : Int).toNat = UInt8.ofNat n := rfl
  clear R0
  have hcv2 : ∀ (W : World) (g : Nat) (x y v : Nat), Rw W g 5 #[.int .u8 (x : Int), .int .u8 (y : Int), .int .u8 (v : Int)] → (convert 42 9 (.slice (some ⟨g, 0, none⟩) 3 3)).run Tryz.prog W = .ok (.string ⟨#[UInt8.ofNat x, UInt8.ofNat y, UInt8.ofNat v]⟩) W := fun W g x y v hr => by
    have h := run_convert_bytes_arg (P := Tryz.prog) (w := W) 42 5 Tryz.underlying42 Tryz.underlying5 g 0 3 3 [(x : Int), (y : Int), (v : Int)] rfl (fun i hi => by
      have : i = 0 ∨ i = 1 ∨ i = 2 := by omega
      rcases this with rfl | rfl | rfl
      · exact hr.cell 0
      · exact hr.cell 1
      · exact hr.cell 2) 9 Tryz.underlying9
    rw [h]; rfl
  have HCV := Lib.hid hcv2
  clear hcv2
  unfold layX
  go_enter Tryz.func42, Tryz.ntmps42
  go_wp2_with fail
  generalize w.alloc (.cells #[.int .i64 n, .int .i64 z, .int .i64 E, .int .i64 t] 34) = W1 at *
  have hc1 := keep1 _ _ S0.out (Below.refl _ W1).drew
  refine wp_region_held_drew (S := (fun w' => w'.cell? ⟨w.heap.size, 0, none⟩ = some (.int .i64 n) ∧ w'.cell? ⟨w.heap.size, 1, none⟩ = some (.int .i64 z) ∧ w'.cell? ⟨w.heap.size, 2, none⟩ = some (.int .i64 E) ∧ Below w.heap.size w w' ∧ w.heap.size < w'.heap.size)) (by kernel_rfl) hc1 (fun hHeld => ?_)
  refine wpAnyH_take (i := 0) (v := ?va0) rfl (by kernel_rfl) (by kernel_rfl) (by kernel_rfl) (fun _ _ _ h => h) (Or.inl ⟨by rfl, ?hya0⟩) (by assumption) ?resta0
  case hya0 => (intro w hSw; (try dsimp only at hSw); go_simp; try with_reducible rfl)
  case resta0 =>
  try simp only [Act.put, List.setIfInBounds_toArray, List.set_cons_zero, List.set_cons_succ]
  refine wpAnyH_take (i := 1) (v := ?va1) rfl (by kernel_rfl) (by kernel_rfl) (by kernel_rfl) (fun _ _ _ h => h) (Or.inl ⟨by rfl, ?hya1⟩) (by assumption) ?resta1
  case hya1 => (intro w hSw; (try dsimp only at hSw); go_simp; try with_reducible rfl)
  case resta1 =>
  try simp only [Act.put, List.setIfInBounds_toArray, List.set_cons_zero, List.set_cons_succ]
  refine wpAnyH_take (i := 2) (v := ?va2) rfl (by kernel_rfl) (by kernel_rfl) (by kernel_rfl) (fun _ _ _ h => h) (Or.inl ⟨by rfl, ?hya2⟩) (by assumption) ?resta2
  case hya2 => (intro w hSw; (try dsimp only at hSw); go_simp; try with_reducible rfl)
  case resta2 =>
  try simp only [Act.put, List.setIfInBounds_toArray, List.set_cons_zero, List.set_cons_succ]
  refine wpAnyH_take (i := 3) (v := ?va3) rfl (by kernel_rfl) (by kernel_rfl) (by kernel_rfl) (fun _ _ _ h => h) (Or.inl ⟨by rfl, ?hya3⟩) (by assumption) ?resta3
  case hya3 => (intro w hSw; (try dsimp only at hSw); go_simp; try with_reducible rfl)
  case resta3 =>
  try simp only [Act.put, List.setIfInBounds_toArray, List.set_cons_zero, List.set_cons_succ]
  refine wpAnyH_take (i := 4) (v := ?va4) rfl (by kernel_rfl) (by kernel_rfl) (by kernel_rfl) (fun _ _ _ h => h) (Or.inl ⟨by rfl, ?hya4⟩) (by assumption) ?resta4
  case hya4 => (intro w hSw; (try dsimp only at hSw); go_simp; try with_reducible rfl)
  case resta4 =>
  try simp only [Act.put, List.setIfInBounds_toArray, List.set_cons_zero, List.set_cons_succ]
  refine wpAnyH_take (i := 5) (v := ?va5) rfl (by kernel_rfl) (by kernel_rfl) (by kernel_rfl) (fun _ _ _ h => h) (Or.inl ⟨by rfl, ?hya5⟩) (by assumption) ?resta5
  case hya5 => (intro w hSw; (try dsimp only at hSw); go_simp; try with_reducible rfl)
  case resta5 =>
  try simp only [Act.put, List.setIfInBounds_toArray, List.set_cons_zero, List.set_cons_succ]
  refine wpAnyH_take (i := 6) (v := ?va6) rfl (by kernel_rfl) (by kernel_rfl) (by kernel_rfl) (fun _ _ _ h => h) (Or.inl ⟨by rfl, ?hya6⟩) (by assumption) ?resta6
  case hya6 => (intro w hSw; (try dsimp only at hSw); go_simp; try with_reducible rfl)
  case resta6 =>
  try simp only [Act.put, List.setIfInBounds_toArray, List.set_cons_zero, List.set_cons_succ]
  refine wpAnyH_take (i := 7) (v := ?va7) rfl (by kernel_rfl) (by kernel_rfl) (by kernel_rfl) (fun _ _ _ h => h) (Or.inl ⟨by rfl, ?hya7⟩) (by assumption) ?resta7
  case hya7 => (intro w hSw; (try dsimp only at hSw); go_simp; try with_reducible rfl)
  case resta7 =>
  try simp only [Act.put, List.setIfInBounds_toArray, List.set_cons_zero, List.set_cons_succ]
  refine wpAnyH_take (i := 8) (v := ?va8) rfl (by kernel_rfl) (by kernel_rfl) (by kernel_rfl) (fun _ _ _ h => h) (Or.inl ⟨by rfl, ?hya8⟩) (by assumption) ?resta8
  case hya8 => (intro w hSw; (try dsimp only at hSw); go_simp; try with_reducible rfl)
  case resta8 =>
  try simp only [Act.put, List.setIfInBounds_toArray, List.set_cons_zero, List.set_cons_succ]
  refine wpAnyH_take (i := 12) (v := ?va12) rfl (by kernel_rfl) (by kernel_rfl) (by kernel_rfl) (fun _ _ _ h => h) (Or.inl ⟨by rfl, ?hya12⟩) (by assumption) ?resta12
  case hya12 => (intro w hSw; (try dsimp only at hSw); go_simp; try with_reducible rfl)
  case resta12 =>
  try simp only [Act.put, List.setIfInBounds_toArray, List.set_cons_zero, List.set_cons_succ]
  refine wpAnyH_take (i := 13) (v := ?va13) rfl (by kernel_rfl) (by kernel_rfl) (by kernel_rfl) (fun _ _ _ h => h) (Or.inl ⟨by rfl, ?hya13⟩) (by assumption) ?resta13
  case hya13 => (intro w hSw; (try dsimp only at hSw); go_simp; try with_reducible rfl)
  case resta13 =>
  try simp only [Act.put, List.setIfInBounds_toArray, List.set_cons_zero, List.set_cons_succ]
  refine wpAnyH_take (i := 14) (v := ?va14) rfl (by kernel_rfl) (by kernel_rfl) (by kernel_rfl) (fun _ _ _ h => h) (Or.inl ⟨by rfl, ?hya14⟩) (by assumption) ?resta14
  case hya14 => (intro w hSw; (try dsimp only at hSw); go_simp; try with_reducible rfl)
  case resta14 =>
  try simp only [Act.put, List.setIfInBounds_toArray, List.set_cons_zero, List.set_cons_succ]
  refine wpAnyH_ready (rs := [9, 15]) (by kernel_rfl) (by simp) ?_
  refine AllReadyH.cons rfl (fun K hK => ?_) (AllReadyH.cons rfl (fun K hK => ?_) AllReadyH.nil)
  · go_simp
    have hcA := keep1 _ _ hc1 ((Below.refl _ W1.drew).alloc (Nat.le_refl _) (.cells #[.int .u8 (n : Int), .int .u8 (z : Int), .int .u8 (E : Int)] 5))
    have hrr := Rw.new W1.drew 5 #[.int .u8 (n : Int), .int .u8 (z : Int), .int .u8 (E : Int)]
    change Rw _ W1.heap.size _ _ at hrr
    refine hK.out _ _ hcA (fun hHeld => ?_)
    clear hK K
    try simp only [Act.put, List.setIfInBounds_toArray, List.set_cons_zero, List.set_cons_succ]
    refine wpAnyH_weak (S2 := (fun w' => w'.cell? ⟨w.heap.size, 0, none⟩ = some (.int .i64 n) ∧ w'.cell? ⟨w.heap.size, 1, none⟩ = some (.int .i64 z) ∧ w'.cell? ⟨w.heap.size, 2, none⟩ = some (.int .i64 E) ∧ Below w.heap.size w w' ∧ w.heap.size < w'.heap.size ∧ Rw w' W1.heap.size 5 #[.int .u8 (n : Int), .int .u8 (z : Int), .int .u8 (E : Int)])) (fun w' h => ⟨h.1, h.2.1, h.2.2.1, h.2.2.2.1, h.2.2.2.2.1⟩) _ _ _ _ ?_
    have hc2 : (fun w' => w'.cell? ⟨w.heap.size, 0, none⟩ = some (.int .i64 n) ∧ w'.cell? ⟨w.heap.size, 1, none⟩ = some (.int .i64 z) ∧ w'.cell? ⟨w.heap.size, 2, none⟩ = some (.int .i64 E) ∧ Below w.heap.size w w' ∧ w.heap.size < w'.heap.size ∧ Rw w' W1.heap.size 5 #[.int .u8 (n : Int), .int .u8 (z : Int), .int .u8 (E : Int)]) _ := ⟨hcA.1, hcA.2.1, hcA.2.2.1, hcA.2.2.2.1, hcA.2.2.2.2, hrr⟩
    refine wpAnyH_take (i := 10) (v := ?vb10) rfl (by kernel_rfl) (by kernel_rfl) (by kernel_rfl) (fun _ _ _ h => h) (Or.inl ⟨by rfl, ?hyb10⟩) (by assumption) ?restb10
    case hyb10 => (intro W hSw; (try dsimp only at hSw); have hcq := HCV.out W W1.heap.size _ _ _ hSw.2.2.2.2.2; go_simp; try with_reducible rfl)
    case restb10 =>
    try simp only [Act.put, List.setIfInBounds_toArray, List.set_cons_zero, List.set_cons_succ]
    refine wpAnyH_take (i := 11) (v := ?vb11) rfl (by kernel_rfl) (by kernel_rfl) (by kernel_rfl) (fun _ _ _ h => h) (Or.inl ⟨by rfl, ?hyb11⟩) (by assumption) ?restb11
    case hyb11 => (intro w hSw; (try dsimp only at hSw); go_simp; try with_reducible rfl)
    case restb11 =>
    try simp only [Act.put, List.setIfInBounds_toArray, List.set_cons_zero, List.set_cons_succ]
    refine wpAnyH_ready (rs := [15]) (by kernel_rfl) (by simp) ?_
    refine AllReadyH.cons rfl (fun K hK => ?_) AllReadyH.nil
    go_simp
    go_at_call 66
    refine (zeros_any y _ (by omega)).mono ?_
    rintro e w1 ⟨rfl, hb1⟩
    have hc3 := keep1 _ _ hcA hb1
    refine hK.out _ _ ⟨hc3.1, hc3.2.1, hc3.2.2.1, hc3.2.2.2.1, hc3.2.2.2.2, hrr.below hb1 hrr.lt⟩ (fun hHeld => ?_)
    clear hK K
    try simp only [Act.put, List.setIfInBounds_toArray, List.set_cons_zero, List.set_cons_succ]
    refine wpAnyH_take (i := 16) (v := ?vb16) rfl (by kernel_rfl) (by kernel_rfl) (by kernel_rfl) (fun _ _ _ h => h) (Or.inl ⟨by rfl, ?hyb16⟩) (by assumption) ?restb16
    case hyb16 => (intro w hSw; (try dsimp only at hSw); go_simp; try with_reducible rfl)
    case restb16 =>
    try simp only [Act.put, List.setIfInBounds_toArray, List.set_cons_zero, List.set_cons_succ]
    refine wpAnyH_take (i := 17) (v := ?vb17) rfl (by kernel_rfl) (by kernel_rfl) (by kernel_rfl) (fun _ _ _ h => h) (Or.inl ⟨by rfl, ?hyb17⟩) (by assumption) ?restb17
    case hyb17 => (intro w hSw; (try dsimp only at hSw); go_simp; try with_reducible rfl)
    case restb17 =>
    try simp only [Act.put, List.setIfInBounds_toArray, List.set_cons_zero, List.set_cons_succ]
    refine wpAnyH_done (by kernel_rfl) ?_ _
    go_wp2_with fail
    go_ret
    exact ⟨rfl, hc3.2.2.2.1⟩
  · go_simp
    go_at_call 66
    refine (zeros_any y _ (by omega)).mono ?_
    rintro e w1 ⟨rfl, hb1⟩
    have hc3 := keep1 _ _ hc1 hb1
    refine hK.out _ _ hc3 (fun hHeld => ?_)
    clear hK K
    try simp only [Act.put, List.setIfInBounds_toArray, List.set_cons_zero, List.set_cons_succ]
    refine wpAnyH_ready (rs := [9]) (by kernel_rfl) (by simp) ?_
    refine AllReadyH.cons rfl (fun K hK => ?_) AllReadyH.nil
    go_simp
    have hcA := keep1 _ _ hc3 ((Below.refl _ w1).alloc (Nat.le_refl _) (.cells #[.int .u8 (n : Int), .int .u8 (z : Int), .int .u8 (E : Int)] 5))
    have hrr := Rw.new w1 5 #[.int .u8 (n : Int), .int .u8 (z : Int), .int .u8 (E : Int)]
    refine hK.out _ _ hcA (fun hHeld => ?_)
    clear hK K
    try simp only [Act.put, List.setIfInBounds_toArray, List.set_cons_zero, List.set_cons_succ]
    refine wpAnyH_weak (S2 := (fun w' => w'.cell? ⟨w.heap.size, 0, none⟩ = some (.int .i64 n) ∧ w'.cell? ⟨w.heap.size, 1, none⟩ = some (.int .i64 z) ∧ w'.cell? ⟨w.heap.size, 2, none⟩ = some (.int .i64 E) ∧ Below w.heap.size w w' ∧ w.heap.size < w'.heap.size ∧ Rw w' w1.heap.size 5 #[.int .u8 (n : Int), .int .u8 (z : Int), .int .u8 (E : Int)])) (fun w' h => ⟨h.1, h.2.1, h.2.2.1, h.2.2.2.1, h.2.2.2.2.1⟩) _ _ _ _ ?_
    have hc2 : (fun w' => w'.cell? ⟨w.heap.size, 0, none⟩ = some (.int .i64 n) ∧ w'.cell? ⟨w.heap.size, 1, none⟩ = some (.int .i64 z) ∧ w'.cell? ⟨w.heap.size, 2, none⟩ = some (.int .i64 E) ∧ Below w.heap.size w w' ∧ w.heap.size < w'.heap.size ∧ Rw w' w1.heap.size 5 #[.int .u8 (n : Int), .int .u8 (z : Int), .int .u8 (E : Int)]) _ := ⟨hcA.1, hcA.2.1, hcA.2.2.1, hcA.2.2.2.1, hcA.2.2.2.2, hrr⟩
    refine wpAnyH_take (i := 10) (v := ?vc10) rfl (by kernel_rfl) (by kernel_rfl) (by kernel_rfl) (fun _ _ _ h => h) (Or.inl ⟨by rfl, ?hyc10⟩) (by assumption) ?restc10
    case hyc10 => (intro W hSw; (try dsimp only at hSw); have hcq := HCV.out W w1.heap.size _ _ _ hSw.2.2.2.2.2; go_simp; try with_reducible rfl)
    case restc10 =>
    try simp only [Act.put, List.setIfInBounds_toArray, List.set_cons_zero, List.set_cons_succ]
    refine wpAnyH_take (i := 11) (v := ?vc11) rfl (by kernel_rfl) (by kernel_rfl) (by kernel_rfl) (fun _ _ _ h => h) (Or.inl ⟨by rfl, ?hyc11⟩) (by assumption) ?restc11
    case hyc11 => (intro w hSw; (try dsimp only at hSw); go_simp; try with_reducible rfl)
    case restc11 =>
    try simp only [Act.put, List.setIfInBounds_toArray, List.set_cons_zero, List.set_cons_succ]
    refine wpAnyH_take (i := 16) (v := ?vc16) rfl (by kernel_rfl) (by kernel_rfl) (by kernel_rfl) (fun _ _ _ h => h) (Or.inl ⟨by rfl, ?hyc16⟩) (by assumption) ?restc16
    case hyc16 => (intro w hSw; (try dsimp only at hSw); go_simp; try with_reducible rfl)
    case restc16 =>
    try simp only [Act.put, List.setIfInBounds_toArray, List.set_cons_zero, List.set_cons_succ]
    refine wpAnyH_take (i := 17) (v := ?vc17) rfl (by kernel_rfl) (by kernel_rfl) (by kernel_rfl) (fun _ _ _ h => h) (Or.inl ⟨by rfl, ?hyc17⟩) (by assumption) ?restc17
    case hyc17 => (intro w hSw; (try dsimp only at hSw); go_simp; try with_reducible rfl)
    case restc17 =>
    try simp only [Act.put, List.setIfInBounds_toArray, List.set_cons_zero, List.set_cons_succ]
    refine wpAnyH_done (by kernel_rfl) ?_ _
    go_wp2_with fail
    go_ret
    exact ⟨rfl, hcA.2.2.2.1⟩
end Go.Proofs.YtjbpibapbonkpaaGreatDoor
