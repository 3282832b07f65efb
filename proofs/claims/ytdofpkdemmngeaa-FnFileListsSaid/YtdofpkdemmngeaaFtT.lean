/-
  The text of a list of files, both sides.
-/
import Derived.Test.YtdofpkdemmngeaaVfT
import Derived.Test.YtdofpkdemmngeaaHexT
import Derived.Test.YtdofpkdemmngeaaBld
namespace Go.Proofs.Ytdofpkdemmngeaa
open Go Go.ChangeShapes Go.WideShapes Go.ChangeAt Go.RowKit lib
set_option linter.unusedVariables false
set_option maxRecDepth 100000
/-- a file's data in a line -/
def datS (d : ByteArray) : ByteArray := if d.size = 0 then ⟨#[45]⟩ else hexS d
def lineS (s : Nat → ByteArray) (i : Nat) : ByteArray := s (i * 2) ++ ⟨#[32]⟩ ++ datS (s (i * 2 + 1)) ++ ⟨#[10]⟩
/-- the lines of the first files -/
def ftx (s : Nat → ByteArray) : Nat → ByteArray
  | 0 => ⟨#[]⟩
  | k + 1 => ftx s k ++ lineS s k
theorem hexS_size (d : ByteArray) : (hexS d).size = 2 * d.size := by
  show (hexS d).data.size = _
  simp [hexS, bstr]
theorem datS_size {d : ByteArray} (h : d.size ≤ 512) : (datS d).size ≤ 1024 := by
  unfold datS
  split
  · show 1 ≤ 1024
    omega
  · rw [hexS_size]; omega
theorem lineS_size {s : Nat → ByteArray} {i : Nat} (h : okF s i) : (lineS s i).size ≤ 1034 := by
  have h1 := h.1.hi
  have h2 := datS_size h.2.1
  unfold lineS
  rw [ByteArray.size_append, ByteArray.size_append, ByteArray.size_append]
  show (s (i * 2)).size + 1 + (datS (s (i * 2 + 1))).size + 1 ≤ 1034
  omega
theorem ftx_size {s : Nat → ByteArray} : ∀ k, (∀ i, i < k → okF s i) → (ftx s k).size ≤ k * 1034
  | 0, _ => Nat.zero_le _
  | k + 1, h => by
    have h1 := ftx_size k (fun i hi => h i (by omega))
    have h2 := lineS_size (h k (by omega))
    rw [ftx, ByteArray.size_append]
    omega
theorem empty_toList {d : ByteArray} : d.toList.isEmpty = decide (d.size = 0) := by
  rw [Bool.eq_iff_iff, List.isEmpty_iff, decide_eq_true_eq, ByteArray.toList_eq]
  constructor
  · intro h
    have := congrArg List.length h
    exact this
  · intro h
    exact List.eq_nil_of_length_eq_zero h
open Classical in
/-- the text of a list of files -/
noncomputable def ftAll (n : Nat) (s : Nat → ByteArray) : ByteArray := if VF n s then ftx s n else ⟨#[]⟩
theorem bld_below {T e B b : Nat} {bs : List Value} {w w' : World} (h : Lib.IsBuilder T e B b bs w) (hb : Below w.heap.size w w') : Lib.IsBuilder T e B b bs w' := by
  have key : ∀ p, Lib.BuilderAt T e B b p bs w → Lib.BuilderAt T e B b p bs w' := fun p h => by
    have hlt := h.lt
    obtain ⟨h1, v, h2, h3, h4⟩ := h
    exact ⟨h1, v, (hb.block b hlt).trans h2, own_below h3 hb, h4⟩
  rcases h with h | h
  · exact .inl (key _ h)
  · exact .inr (key _ h)
set_option maxHeartbeats 2000000 in
theorem implFilesText_any (A : Option Addr) (n c : Nat) (s : Nat → ByteArray) (w : World) (hn : n ≤ 1048576) (hsz : ∀ i, i < n * 2 → (s i).size ≤ 1048576) (hs : Sl w w.heap.size A (n * 2) (fun i => .string (s i))) :
    Calls Try.prog 12 #[.slice A n c] w fun e w' => e = .returned (.string (ftAll n s)) ∧ Below w.heap.size w w' := by
  have HVF := Lib.hid (implValid_any A n c s w hn hsz hs)
  have HS := Lib.hid hs
  clear hs hsz
  by_cases hv : VF n s
  · have hft : ftAll n s = ftx s n := if_pos hv
    rw [hft]
    have HV := Lib.hid hv
    have HOK := Lib.hid hv.2
    have h16 := hv.1
    clear hv hft
    go_enter Try.func12, Try.ntmps12
    go_upto_region 3 with (go_at_call 17; refine HVF.out.mono ?_; rintro e w1 ⟨b, hb, rfl, hb1⟩; obtain rfl := hb.2 HV.out)
    go_upto_region 4 with fail
    have HIB := Lib.hid (Lib.fresh_isBuilder 53 5 w1)
    have HB2 := Lib.hid ((Below.refl w1.heap.size w1).alloc (Nat.le_refl _) (.cells #[.pointer none, .slice none 0 0] 53))
    have HB1 := Lib.hid hb1
    have hz1 := hb1.size
    obtain ⟨qb, hqb⟩ : ∃ qb, w1.heap.size = qb := ⟨_, rfl⟩
    rw [hqb] at HIB HB2 hz1
    rw [hqb]
    generalize hW2 : w1.alloc (.cells #[.pointer none, .slice none 0 0] 53) = W2 at *
    clear hW2 hb hb1
    go_wp2_with fail
    go_loopw [12] (fun s12 wr => ∃ k : Nat, k ≤ n ∧ s12 = .int .i64 k ∧ Lib.IsBuilder 53 5 qb qb (Lib.byteCells (ftx s k).data.toList) wr ∧ Below qb w1 wr) (fun i _ => n - (intOf i).toNat)
    case atStart => exact ⟨0, by omega, rfl, HIB.out, HB2.out⟩
    case round =>
      obtain ⟨k, hk, rfl, hib, hb⟩ := hrel
      have HBR := Lib.hid hb
      have hbz : qb ≤ wr.heap.size := by have := hb.size; omega
      have HBW := Lib.hid (HB1.out.trans (hb.mono hz1))
      clear hb
      by_cases hlt : k < n
      · have HIBR := Lib.hid hib
        clear hib
        obtain ⟨q, o, rfl, hq, g0, g1⟩ := (HS.out.below HBW.out).two hlt
        have hok := HOK.out k hlt
        have hn8 := hok.1.hi
        have hd5 := hok.2.1
        have hft := ftx_size (s := s) k (fun i hi => HOK.out i (by omega))
        have hkk : k * 1034 ≤ 16 * 1034 := Nat.mul_le_mul_right 1034 (by omega)
        have hln : lineS s k = s (k * 2) ++ ⟨#[32]⟩ ++ datS (s (k * 2 + 1)) ++ ⟨#[10]⟩ := rfl
        have hls := lineS_size hok
        have hds := datS_size hd5
        have HFX := Lib.hid (show ftx s (k + 1) = ftx s k ++ lineS s k from rfl)
        obtain ⟨nm, hnm⟩ : ∃ x, s (k * 2) = x := ⟨_, rfl⟩
        obtain ⟨dt, hdt⟩ : ∃ x, s (k * 2 + 1) = x := ⟨_, rfl⟩
        rw [hnm] at g0 hn8 hln
        rw [hdt] at g1 hd5 hln hds
        obtain ⟨LN, hLN⟩ : ∃ x, lineS s k = x := ⟨_, rfl⟩
        rw [hLN] at hln hls HFX
        obtain ⟨FX, hFX⟩ : ∃ x, ftx s k = x := ⟨_, rfl⟩
        rw [hFX] at hft HFX HIBR
        have a1 : ∀ W : World, (Op.stringOp .add nm ⟨#[32]⟩).run Try.prog W = .ok (.string (nm ++ ⟨#[32]⟩)) W := fun W => run_string_add_sum _ _ _ (by show nm.size + 1 ≤ _; omega)
        have z45 : (⟨#[45]⟩ : ByteArray).size = 1 := rfl
        have z1 : (nm ++ ⟨#[32]⟩ : ByteArray).size = nm.size + 1 := by rw [ByteArray.size_append]; rfl
        have hbl : (Lib.byteCells FX.data.toList).length ≤ 16 * 1034 := by rw [Lib.byteCells_length]; show FX.size ≤ _; omega
        go_upto_region 7 with fail
        have HAL := Lib.hid ((Below.refl wr.heap.size wr).alloc (Nat.le_refl _) (.cells #[.string nm, .string dt] 43))
        have rF := Rw.new wr 43 #[.string nm, .string dt]
        have y0 := rF.cell 0; have y1 := rF.cell 1
        have RF := Lib.hid rF
        have HB3 := Lib.hid (HBR.out.trans (HAL.out.mono hbz))
        have HIB3 := Lib.hid (bld_below HIBR.out HAL.out)
        clear rF
        generalize wr.alloc (.cells #[.string nm, .string dt] 43) = W3 at *
        have hz3 : qb ≤ W3.heap.size := Nat.le_trans hbz HAL.out.size
        have e0 := empty_toList (d := dt)
        by_cases h0 : dt.size = 0
        · have hdd : datS dt = ⟨#[45]⟩ := by unfold datS; rw [if_pos h0]
          rw [hdd] at hln
          rw [decide_eq_true h0] at e0
          have a2 : ∀ W : World, (Op.stringOp .add (nm ++ ⟨#[32]⟩) (⟨#[45]⟩ : ByteArray)).run Try.prog W = .ok (.string (nm ++ ⟨#[32]⟩ ++ (⟨#[45]⟩ : ByteArray))) W := fun W => run_string_add_sum _ _ _ (by rw [z1]; omega)
          have a3 : ∀ W : World, (Op.stringOp .add (nm ++ ⟨#[32]⟩ ++ (⟨#[45]⟩ : ByteArray)) ⟨#[10]⟩).run Try.prog W = .ok (.string LN) W := fun W => by rw [run_string_add_sum _ _ _ (by rw [ByteArray.size_append, z1]; show nm.size + 1 + (⟨#[45]⟩ : ByteArray).size + 1 ≤ _; omega), hln]
          have HWS := Lib.hid (writeString_any LN HIB3.out (by omega) hz3)
          clear hln hdd hnm hdt hLN hFX
          go_wp2_with (go_at_call 27; refine HWS.out.mono ?_; rintro e6 w6 ⟨rfl, hba, hb6⟩)
          go_roundw
          case rel => exact ⟨k + 1, by omega, by go_num, by rw [HFX.out, ByteArray.data_append, Array.toList_append, Lib.byteCells_append]; exact .inr hba, HB3.out.trans hb6⟩
          case measure => simp [intOf]; omega
        · have hdd : datS dt = hexS dt := by unfold datS; rw [if_neg h0]
          rw [hdd] at hln hds
          rw [decide_eq_false h0] at e0
          have HHX := Lib.hid (implHex_any dt (by omega) W3)
          obtain ⟨HX, hHX⟩ : ∃ x, hexS dt = x := ⟨_, rfl⟩
          rw [hHX] at hln hds HHX
          have a2 : ∀ W : World, (Op.stringOp .add (nm ++ ⟨#[32]⟩) HX).run Try.prog W = .ok (.string (nm ++ ⟨#[32]⟩ ++ HX)) W := fun W => run_string_add_sum _ _ _ (by rw [z1]; omega)
          have a3 : ∀ W : World, (Op.stringOp .add (nm ++ ⟨#[32]⟩ ++ HX) ⟨#[10]⟩).run Try.prog W = .ok (.string LN) W := fun W => by rw [run_string_add_sum _ _ _ (by rw [ByteArray.size_append, z1]; show nm.size + 1 + HX.size + 1 ≤ _; omega), hln]
          clear hln hdd hnm hdt hLN hFX hHX
          go_upto_region 10 with (go_at_call 26; refine HHX.out.mono ?_; rintro e5 w5 ⟨rfl, hb5⟩)
          have hr5 := (RF.out.below hb5 RF.out.lt)
          have y5 := hr5.cell 0
          have hz5 : qb ≤ w5.heap.size := Nat.le_trans hz3 hb5.size
          have HWS := Lib.hid (writeString_any LN (bld_below HIB3.out hb5) (by omega) hz5)
          have HB5 := Lib.hid (HB3.out.trans (hb5.mono hz3))
          clear hr5 hb5
          go_wp2_with (go_at_call 27; refine HWS.out.mono ?_; rintro e6 w6 ⟨rfl, hba, hb6⟩)
          go_roundw
          case rel => exact ⟨k + 1, by omega, by go_num, by rw [HFX.out, ByteArray.data_append, Array.toList_append, Lib.byteCells_append]; exact .inr hba, HB5.out.trans hb6⟩
          case measure => simp [intOf]; omega
      · obtain rfl : k = n := by omega
        go_wp2_with (go_at_call 28; refine (Try.Builder_String_any qb qb _ _ hib hbz).mono ?_; rintro e6 w6 ⟨rfl, hb6⟩)
        go_ret
        exact ⟨rfl, HBW.out.trans (hb6.mono hz1)⟩
  · have hft : ftAll n s = ⟨#[]⟩ := if_neg hv
    rw [hft]
    have HV := Lib.hid hv
    clear hv hft
    go_enter Try.func12, Try.ntmps12
    go_wp2_with (go_at_call 17; refine HVF.out.mono ?_; rintro e w1 ⟨b, hb, rfl, hb1⟩; obtain rfl : b = false := (by cases b; exact rfl; exact absurd (hb.1 rfl) HV.out))
    go_ret
    exact ⟨rfl, hb1⟩
end Go.Proofs.Ytdofpkdemmngeaa
