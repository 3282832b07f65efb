/-
  The program's PlaceOf returns what the reference's returns, for all arguments. Conditions: none.
-/
import Derived.Test.YtkpnhcihnmjejaaRows
import Derived.Test.YtkpnhcihnmjejaaGf
import Derived.Test.YtkpnhcihnmjejaaShelf
import Derived.HandedShaped
import Derived.ChangeMaps5
import Derived.Lib.Index
namespace Go.Proofs.Ytkpnhcihnmjejaa.fnExactPlaceOf
open Go Go.ChangeMaps Go.ChangeShapes Go.WideShapes Go.ChangeAt Go.RowKit lib
set_option linter.unusedVariables false
set_option maxRecDepth 100000
/-- the place: the first at which 'part' occurs in 's', from 'f' on -/
def place (s part : List UInt8) (f : Int) : Int :=
  if 0 ≤ f ∧ f ≤ s.length then
    if Lib.index (s.drop f.toNat) part < 0 then -1 else f + Lib.index (s.drop f.toNat) part
  else -1
theorem index_le : ∀ (s p : List UInt8), Lib.index s p ≤ s.length
  | [], p => by unfold Lib.index; split <;> simp
  | b :: l, p => by
    have := index_le l p
    unfold Lib.index
    simp only [List.length_cons]
    split
    · omega
    · split <;> omega
theorem extract_drop (s : ByteArray) (F : Nat) : (s.extract F s.size).data.toList = s.data.toList.drop F := by
  rw [ByteArray.data_extract, Array.toList_extract]
  simp [List.extract_eq_take_drop]
  have : s.data.toList.length = s.size := rfl
  exact List.take_of_length_le (by rw [List.length_drop]; omega)
theorem impl_any (s part : ByteArray) (f : Int) (w : World) (hsh : w.ShapedOpen Try.prog) (hs : s.size ≤ 1048576) :
    Calls Try.prog 10 #[.string s, .string part, .int .i64 f] w fun e w' => e = .returned (.int .i64 (place s.data.toList part.data.toList f)) ∧ w = w' := by
  unfold place
  have hl : s.data.toList.length = s.size := rfl
  by_cases h : 0 ≤ f ∧ f ≤ s.data.toList.length
  · rw [if_pos h]
    obtain ⟨F, rfl⟩ := Int.eq_ofNat_of_zero_le h.1
    have hF : F ≤ s.size := by omega
    have e : (s.extract F s.size).data.toList = s.data.toList.drop ((F : Int)).toNat := extract_drop s F
    have hx := Try.strings_Index_shaped (s.extract F s.size) part w hsh (by rw [ByteArray.size_extract]; omega)
    rw [e] at hx
    have g1 := Lib.index_ge (s.data.toList.drop ((F : Int)).toNat) part.data.toList
    have g2 := index_le (s.data.toList.drop ((F : Int)).toNat) part.data.toList
    generalize Lib.index (s.data.toList.drop ((F : Int)).toNat) part.data.toList = I at hx g1 g2 ⊢
    have g3 : I ≤ 1048576 := by rw [List.length_drop] at g2; omega
    clear g2 e h
    by_cases hI : I < 0
    · rw [if_pos hI]
      go_enter Try.func10, Try.ntmps10
      go_wp2_with (first | (go_at_call 33; refine (within_any _ _ _ _).mono ?_; rintro e w' ⟨rfl, rfl⟩) | (go_at_call 34; refine hx.mono ?_; rintro e w' ⟨rfl, rfl⟩))
      go_ret
      exact ⟨rfl, rfl⟩
    · rw [if_neg hI]
      go_enter Try.func10, Try.ntmps10
      go_wp2_with (first | (go_at_call 33; refine (within_any _ _ _ _).mono ?_; rintro e w' ⟨rfl, rfl⟩) | (go_at_call 34; refine hx.mono ?_; rintro e w' ⟨rfl, rfl⟩))
      go_ret
      exact ⟨rfl, rfl⟩
  · rw [if_neg h]
    have hd : (decide (0 ≤ f) && decide (f ≤ (s.size : Int))) = false := by simp; omega
    go_enter Try.func10, Try.ntmps10
    go_wp2_with (go_at_call 33; refine (within_any _ _ _ _).mono ?_; rintro e w' ⟨rfl, rfl⟩)
    go_ret
    exact ⟨rfl, rfl⟩
theorem occ_drop (S P : List UInt8) (F j : Nat) : Lib.occAt (S.drop F) P j = Lib.occAt S P (F + j) := by
  unfold Lib.occAt
  rw [List.drop_drop]
theorem place_found (S P : List UInt8) (F k : Nat) (hk : F ≤ k) (hl : k ≤ S.length) (h : Lib.occAt S P k = true) (hn : ∀ j, F ≤ j → j < k → Lib.occAt S P j = false) : place S P F = k := by
  have e : Lib.index (S.drop F) P = ((k - F : Nat) : Int) := Lib.index_first (by rw [List.length_drop]; omega) (by rw [occ_drop, show F + (k - F) = k by omega]; exact h) (fun j hj => by rw [occ_drop]; exact hn _ (by omega) (by omega))
  unfold place
  rw [Int.toNat_natCast, e]
  rw [if_pos (by omega), if_neg (by omega)]
  omega
theorem place_none (S P : List UInt8) (F k : Nat) (hk : S.length < k + P.length) (hn : ∀ j, F ≤ j → j < k → Lib.occAt S P j = false) : place S P F = -1 := by
  unfold place
  split
  · rw [Int.toNat_natCast]
    have e : Lib.index (S.drop F) P = -1 := Lib.index_none fun j hj => by
      rw [List.length_drop] at hj
      rw [occ_drop]
      by_cases q : F + j < k
      · exact hn _ (by omega) q
      · cases h : Lib.occAt S P (F + j) with
        | false => rfl
        | true =>
          rcases Lib.occAt_room h with h' | h'
          · omega
          · subst h'
            simp at hk
            omega
    rw [e]
    rfl
  · rfl
theorem extract_mid (s : ByteArray) (i n : Nat) (h : i + n ≤ s.size) : (s.extract i (i + n)).data.toList = (s.data.toList.drop i).take n := by
  rw [ByteArray.data_extract, Array.toList_extract]
  simp [List.extract_eq_take_drop]
theorem ba_of_list {a b : ByteArray} (h : a.data.toList = b.data.toList) : a = b := by
  obtain ⟨⟨a⟩⟩ := a
  obtain ⟨⟨b⟩⟩ := b
  simp at h
  subst h
  rfl
theorem occ_eq (s p : ByteArray) (k : Nat) (h : k + p.size ≤ s.size) : (s.extract k (k + p.size)).toList == p.toList ↔ Lib.occAt s.data.toList p.data.toList k = true := by
  have hl : s.data.toList.length = s.size := rfl
  have hp : p.data.toList.length = p.size := rfl
  rw [Lib.occAt_iff_take _ _ _ (by omega), hp, ← extract_mid s k p.size h, ByteArray.toList_eq, ByteArray.toList_eq]
theorem spec_any (s part : ByteArray) (f : Int) (w : World) (hs : s.size ≤ 1048576) (hp : part.size ≤ 1048576) :
    Calls Try.prog 9 #[.string s, .string part, .int .i64 f] w fun e w' => e = .returned (.int .i64 (place s.data.toList part.data.toList f)) ∧ w = w' := by
  have hl : s.data.toList.length = s.size := rfl
  have hp' : part.data.toList.length = part.size := rfl
  by_cases hf : f < 0
  · have e : place s.data.toList part.data.toList f = -1 := by unfold place; rw [if_neg (by omega)]
    rw [e]
    go_enter Try.func9, Try.ntmps9
    go_wp2
    go_ret
    exact ⟨rfl, rfl⟩
  · obtain ⟨F, rfl⟩ := Int.eq_ofNat_of_zero_le (show 0 ≤ f by omega)
    go_enter Try.func9, Try.ntmps9
    go_wp2
    go_loop [7] (fun s7 => ∃ k : Nat, s7 = .int .i64 k ∧ F ≤ k ∧ (k = F ∨ k + part.size ≤ s.size + 1) ∧ (∀ j, F ≤ j → j < k → Lib.occAt s.data.toList part.data.toList j = false)) (fun i => s.size + 1 - (intOf i).toNat)
    case atStart => exact ⟨F, rfl, by omega, Or.inl rfl, fun j h1 h2 => absurd h1 (by omega)⟩
    case round =>
      obtain ⟨k, rfl, hk, hk', hn⟩ := hrel
      by_cases hle : k + part.size ≤ s.size
      · have ho := occ_eq s part k hle
        have hsl : ∀ wx, (Instr.slice 9 (.string s) (some (.int .i64 (k : Int))) (some (.int .i64 ((k : Int) + part.size))) none).run Try.prog wx = .ok (.string (s.extract k (k + part.size))) wx := fun wx => by
          have := run_slice_string (P := Try.prog) (w := wx) 9 s .i64 .i64 (k : Int) ((k + part.size : Nat) : Int) Try.underlying9 (by omega) (by omega) (by omega)
          rw [Int.natCast_add] at this
          rw [this]
          rfl
        cases q : Lib.occAt s.data.toList part.data.toList k with
        | true =>
          have hv := place_found _ _ F k hk (by omega) q hn
          have HV := Lib.hid hv
          rw [q] at ho
          have he := ho.2 rfl
          clear hv hn ho q hk'
          go_wp2
          go_ret
          exact ⟨by rw [HV.out]; rfl, rfl⟩
        | false =>
          have he : ((s.extract k (k + part.size)).toList == part.toList) = false := by
            cases e : ((s.extract k (k + part.size)).toList == part.toList) with
            | false => rfl
            | true => rw [q] at ho; exact absurd (ho.1 e) (by decide)
          have hn' : ∀ j, F ≤ j → j < k + 1 → Lib.occAt s.data.toList part.data.toList j = false := fun j h1 h2 => by
            by_cases e : j = k
            · rw [e]; exact q
            · exact hn j h1 (by omega)
          clear ho hn q
          go_wp2
          go_round
          case rel => exact ⟨k + 1, by go_num, by omega, Or.inr (by omega), hn'⟩
          case measure => simp [intOf]; omega
      · have hv := place_none _ _ F k (by omega) hn
        have HV := Lib.hid hv
        clear hv hn
        have d : decide ((k : Int) ≤ (s.size : Int) - (part.size : Int)) = false := by simp; omega
        go_wp2
        go_ret
        exact ⟨by rw [HV.out]; rfl, rfl⟩
theorem walk (H : Type) (enc : TypeId × Value → H) (W : World) (base : Nat) (args : Array Value) (ds : List (DataW H)) (p : List MemPlace)
    (hsh : W.ShapedOpen Try.prog)
    (hval : ∀ (j : Nat) t v, Try.f3.params[j]? = some t → args[j]? = some v → Value.okWide Try.prog W .any base t v)
    (hA : DataW.TrodAll enc Try.prog W 0 (fun _ => true) true Try.f3.params.toList args.toList ds p) :
    Calls Try.prog 3 args W fun e W' => e = .returned (.bool true) ∧ Below W.heap.size W W' := by
  rw [Try.params3] at hA hval
  obtain ⟨v0, vs0, d0, ds0, p0, q0, hargs, rfl, rfl, h0, r0⟩ := trodAll_cons hA
  obtain ⟨v1, vs1, d1, ds1, p1, q1, rfl, rfl, rfl, h1, r1⟩ := trodAll_cons r0
  obtain ⟨v2, vs2, d2, ds2, p2, q2, rfl, rfl, rfl, h2, r2⟩ := trodAll_cons r1
  obtain ⟨rfl, rfl, rfl⟩ := trodAll_nil r2
  obtain rfl : args = #[v0, v1, v2] := by cases args; simp_all
  obtain ⟨s0, rfl, rfl, rfl, m0⟩ := open_string Try.underlying9 (hval 0 9 v0 rfl rfl) h0
  obtain ⟨s1, rfl, rfl, rfl, m1⟩ := open_string Try.underlying9 (hval 1 9 v1 rfl rfl) h1
  obtain ⟨a2, rfl, rfl, rfl, w2⟩ := open_int Try.underlying2 (hval 2 2 v2 rfl rfl) h2
  suffices h : Calls Try.prog 3 #[.string s0, .string s1, .int .i64 a2] W fun e w' => e = .returned (.bool true) ∧ W = w' by
    exact h.mono fun e W' ⟨he, hw⟩ => ⟨he, hw ▸ Below.refl _ _⟩
  by_cases hs : s0.size ≤ 1048576
  · by_cases hp : s1.size ≤ 1048576
    · go_enter Try.func3, Try.ntmps3
      go_wp2_with (first | (go_at_call 10; refine (impl_any s0 s1 a2 _ hsh hs).mono ?_; rintro e w' ⟨rfl, rfl⟩) | (go_at_call 9; refine (spec_any s0 s1 a2 _ hs hp).mono ?_; rintro e w' ⟨rfl, rfl⟩))
      go_ret
      exact ⟨rfl, rfl⟩
    · go_enter Try.func3, Try.ntmps3
      go_wp2
      go_ret
      exact ⟨rfl, rfl⟩
  · go_enter Try.func3, Try.ntmps3
    go_wp2
    go_ret
    exact ⟨rfl, rfl⟩
theorem own : ownKnob Try.prog.godebug = none := by kernel_rfl
theorem laidOut : laidOutB Try.prog = true := by kernel_rfl
theorem lifted (os : Os) (started : os.Started) (H : Type) (enc : TypeId × Value → H) :
    ReturnsInHanded {} Try.checked os 3 .any (Rows.fnExactPlaceOfSpec.pre6 enc Try.prog Try.f3 Rows.fnExactPlaceOfRow.domain false) (Rows.fnExactPlaceOfSpec.post enc Try.prog Try.f3 false true false false) := by
  refine returnsInHanded_of_change_shaped (C := Try.checked) own started (by kernel_rfl) Try.func3
    (ChangeSpec.witness6 (enc := enc) (C := Try.checked) false ⟨#[], #[.string .empty, .string .empty, .int .i64 0], []⟩ 8 (by kernel_rfl) (by kernel_rfl) (by kernel_rfl) (by kernel_rfl)) ?_
  intro W base args ds gs before hval hW _ _ hsh _
  have hW' := hW
  obtain ⟨p, q, hA, hV, rfl, hfz, hnd⟩ := hW
  refine (walk H enc W base args ds p hsh hval hA).mono fun e W' ⟨he, hb⟩ => ?_
  subst he
  exact ⟨_, rfl, law_post laidOut (by kernel_rfl) rfl rfl Try.underlying4 (fun xs hx => by
      match xs, hx with
      | [x0, x1, x2], _ => exact ⟨rfl, rfl, rfl⟩) hW' hb⟩
theorem over : Rows.fnExactPlaceOfRow.holds Try.pinned (OpenSpec.ofChange Rows.fnExactPlaceOfSpec) :=
  OpenClaim.holds_of_wide 3 Try.f3 rfl rfl rfl rfl rfl rfl rfl ⟨rfl, rfl, rfl, rfl, rfl⟩ rfl rfl rfl rfl rfl (by kernel_rfl) Try.func3 (by kernel_rfl)
    (of_decide_eq_true (by kernel_rfl)) (by unfold Func.isWrapper; first | (rw [if_pos (by decide +kernel)]; kernel_rfl) | (rw [if_neg (by decide +kernel)]; exact ⟨rfl, rfl⟩))
    (fun os started H enc _ => lifted os started H enc)
/-- the given statement -/
theorem proved : Rows.FnExactPlaceOfSaid := over
end Go.Proofs.Ytkpnhcihnmjejaa.fnExactPlaceOf
