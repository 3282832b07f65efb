/-
  Trees: names put in order: the reference's side.
-/
import Derived.Test.YtiefcgmghkkbmaaGreatDoorTreSc
import Derived.Test.YtiefcgmghkkbmaaGreatDoorTreN
import Derived.Test.YtiefcgmghkkbmaaGreatDoorAppR
namespace Go.Proofs.YtiefcgmghkkbmaaGreatDoor
open Go Go.ChangeShapes Go.WideShapes Go.ChangeAt Go.RowKit lib
set_option linter.unusedVariables false
set_option linter.unusedSimpArgs false
set_option maxRecDepth 100000
/-- a row of texts of the call's own, in a block -/
def TxR (B : Nat) (w : World) (g c : Nat) (L : List ByteArray) : Prop := w.ownsRow B 9 1 (.slice (some ⟨g, 0, none⟩) L.length c) L.length (L.map Value.string)
theorem TxR.below {B c g : Nat} {w w' : World} {L : List ByteArray} (h : TxR B w g c L) (hb : Below w.heap.size w w') : TxR B w' g c L := own_below h hb
theorem TxR.sl {B c g : Nat} {w : World} {L : List ByteArray} (h : TxR B w g c L) : Sl w w.heap.size (some ⟨g, 0, none⟩) L.length (fun i => .string (L.getD i ⟨#[]⟩)) := sl_own (c := c) (B := B) (e := 9) h
theorem TxR.cap {B c g : Nat} {w : World} {L : List ByteArray} (h : TxR B w g c L) : L.length ≤ c := by
  rcases h.2 with ⟨hv, _⟩ | ⟨g', cap, cur, hv, _, _, h1, _⟩
  · injection hv with e1 e2 e3
    cases e1
  · injection hv with e1 e2 e3
    omega
theorem own_tx {B c n : Nat} {w : World} {A : Option Addr} {L : List ByteArray} (hn : n = L.length) (h0 : 0 < n) (h : w.ownsRow B 9 1 (.slice A n c) n (L.map Value.string)) : ∃ g, A = some ⟨g, 0, none⟩ ∧ TxR B w g c L := by
  subst hn
  obtain ⟨g, c', e, _, _⟩ := h.form h0
  injection e with e1 e2 e3
  subst e1
  exact ⟨g, rfl, h⟩
set_option maxHeartbeats 4000000 in
theorem l18Put_any {w : World} {B g c : Nat} {L : List ByteArray} {x : ByteArray} (hr : TxR B w g c L) (hm : L.length ≤ 1048576) :
    Calls Tryz.prog 94 #[.slice (some ⟨g, 0, none⟩) L.length c, .string x] w fun e w' => ∃ g' c', e = .returned (.slice (some ⟨g', 0, none⟩) (putS x L).length c') ∧ TxR w.heap.size w' g' c' (putS x L) ∧ Below w.heap.size w w' := by
  obtain ⟨i0, hi0, hi1, hi2, hi3⟩ := info_parts infoStrT
  have I0 := Lib.hid hi0
  have I1 := Lib.hid hi1
  have I2 := Lib.hid hi2
  have I3 := Lib.hid hi3
  have HS := Lib.hid hr.sl
  have hcap := hr.cap
  have HPA := Lib.hid (putS_at (x := x) L)
  have hlen := putS_len (x := x) L
  obtain ⟨m, hm'⟩ : ∃ m, L.length = m := ⟨_, rfl⟩
  rw [hm'] at HS hcap hm HPA hlen ⊢
  have HM := Lib.hid hm'
  have HLEN := Lib.hid hlen
  clear hi0 hi1 hi2 hi3 hr hlen hm'
  go_enter Tryz.func94, Tryz.ntmps94
  go_wp2_with fail
  go_loopw [5] (fun s5 wr => ∃ k : Nat, k ≤ m ∧ s5 = .int .i64 (k : Int) ∧ (∀ i, i < k → ltB (L.getD i ⟨#[]⟩) x = true) ∧ wr = w) (fun s _ => m - (intOf s).toNat)
  case atStart => exact ⟨0, by omega, rfl, fun i hi => absurd hi (by omega), rfl⟩
  case round =>
    obtain ⟨k, hk, rfl, hj, rfl⟩ := hrel
    have HJ := Lib.hid hj
    clear hj
    have key : (k < m ∧ ltB (L.getD k ⟨#[]⟩) x = true) ∨ ¬ (k < m ∧ ltB (L.getD k ⟨#[]⟩) x = true) := Classical.em _
    rcases key with ⟨hlt, hl⟩ | hend
    · have hki : (k : Int) < (m : Int) := by omega
      obtain ⟨ba, oa, hA, _, hca⟩ := HS.out k hlt
      injection hA with hA
      injection hA with e1 e2
      subst e1 e2
      dsimp only at hca
      rw [Nat.zero_add] at hca
      obtain ⟨y, hy⟩ : ∃ y, L.getD k ⟨#[]⟩ = y := ⟨_, rfl⟩
      rw [hy] at hca hl
      have hl2 : Op.bytesLess y.toList x.toList = true := hl
      have HY := Lib.hid hy
      have HLL := Lib.hid hl
      have t1 : decide ((k : Int) < (m : Int)) = true := by simp; omega
      clear hy hl
      go_wp2_with fail
      exact ⟨⟨k + 1, by omega, by go_num, fun j hj => by
        rcases Nat.lt_succ_iff_lt_or_eq.1 hj with h | rfl
        · exact HJ.out j h
        · rw [HY.out]; exact HLL.out, trivial⟩, by simp [intOf]; omega⟩
    · have hput : putS x L = L.take k ++ x :: L.drop k := HPA.out k hk HJ.out (by
        rcases Nat.lt_or_ge k m with h | h
        · exact .inr (by simpa using fun q => hend ⟨h, q⟩)
        · exact .inl (by omega))
      have HPUT := Lib.hid hput
      have hkc : k ≤ c := by omega
      have hkm : (k : Int) ≤ (m : Int) := by omega
      have hmc : (m : Int) ≤ (c : Int) := by omega
      have hkci : (k : Int) ≤ (c : Int) := by omega
      have hb1 := (Below.refl wr.heap.size wr).alloc (Nat.le_refl _) (.cells #[] 9)
      have HB1 := Lib.hid hb1
      have HO1 := Lib.hid (own_nilE wr 9 1 wr.heap.size (Nat.le_refl _))
      have HS1 := Lib.hid (show Sl (wr.alloc (.cells #[] 9)) wr.heap.size (some ⟨g, 0, none⟩) (k * 1) (fun i => .string (L.getD i ⟨#[]⟩)) from fun i hi => (HS.out.below hb1) i (by omega))
      clear hput hb1
      by_cases hlt : k < m
      · have hl : ltB (L.getD k ⟨#[]⟩) x = false := by simpa using fun q => hend ⟨hlt, q⟩
        have hki : (k : Int) < (m : Int) := by omega
        obtain ⟨ba, oa, hA, _, hca⟩ := HS.out k hlt
        injection hA with hA
        injection hA with e1 e2
        subst e1 e2
        dsimp only at hca
        rw [Nat.zero_add] at hca
        obtain ⟨y, hy⟩ : ∃ y, L.getD k ⟨#[]⟩ = y := ⟨_, rfl⟩
        rw [hy] at hca hl
        have hl2 : Op.bytesLess y.toList x.toList = false := hl
        have t1 : decide ((k : Int) < (m : Int)) = true := by simp; omega
        clear hy hl hend
        go_upto_region 5 with (at_builtin; refine wpList_appR rfl (.tmp 21) (.tmp 24) 22 rfl wr.heap.size 9 i0 (.string ⟨#[]⟩) 1 16 Tryz.underlying22 I0.out I1.out I2.out I3.out rfl (by omega) _ 0 _ (by rfl) HO1.out (some ⟨g, 0, none⟩) k c wr.heap.size (fun i => .string (L.getD i ⟨#[]⟩)) (by rfl) HS1.out (fun _ => rfl) (by simp only [maxLen]; omega) (by omega) (by simp) ?_; intro A7 c7 w7 ho7 hg7 hown7)
        rw [Nat.zero_add, List.nil_append, Nat.mul_one] at ho7
        have hb7 := HB1.out.grown hg7 (by simp) (own_lt HO1.out)
        have HO7 := Lib.hid ho7
        have HB7 := Lib.hid hb7
        have hz7 : wr.heap.size ≤ w7.heap.size := hb7.size
        clear ho7 hg7 hown7 hb7
        go_upto_region 6 with (at_builtin; refine wpList_pushT (.tmp 26) (.tmp 28) 22 wr.heap.size 9 (.string .empty) [.string x] 1 16 _ k _ HO7.out rfl rfl Tryz.underlying22 infoStr rfl (by omega) rfl rfl rfl rfl (by intro u hu; simp at hu; subst hu; rfl) (by omega) (by omega) hz7 ?_; intro A8 c8 w8 ho8 hg8)
        have hb8 : Below wr.heap.size wr w8 := HB7.out.trans (below_grown hg8 (fun j e => (HO7.out.lt j e).1) hz7)
        have HO8 := Lib.hid ho8
        have HB8 := Lib.hid hb8
        have hz8 : wr.heap.size ≤ w8.heap.size := hb8.size
        clear ho8 hg8 hb8
        have HLN2 := Lib.hid (show k + 1 + (m - k) = m + 1 by omega)
        have hVV : ∀ W A9 c9, W.ownsRow wr.heap.size 9 1 (.slice A9 (k + 1 + (m - k)) c9) (k + 1 + (m - k)) (((List.range k).map fun i => Value.string (L.getD i ⟨#[]⟩)) ++ [.string x] ++ (List.range ((m - k) * 1)).map (fun i => Value.string (L.getD (k + i) ⟨#[]⟩))) → ∃ g', A9 = some ⟨g', 0, none⟩ ∧ TxR wr.heap.size W g' c9 (putS x L) := fun W A9 c9 h => by
          refine own_tx (n := m + 1) HLEN.out.symm (by omega) ?_
          rw [HLN2.out] at h
          have e1 : (putS x L).map Value.string = ((List.range k).map fun i => Value.string (L.getD i ⟨#[]⟩)) ++ [.string x] ++ (List.range ((m - k) * 1)).map (fun i => Value.string (L.getD (k + i) ⟨#[]⟩)) := by
            rw [HPUT.out, List.map_append, List.map_cons, Nat.mul_one]
            have hM := HM.out
            have a1 : (L.take k).map Value.string = (List.range k).map fun i => Value.string (L.getD i ⟨#[]⟩) := by
              apply List.ext_getElem
              · simp; omega
              · intro i h1 h2
                simp at h2
                simp [List.getElem?_eq_getElem (show i < L.length by omega)]
            have a2 : (L.drop k).map Value.string = (List.range (m - k)).map (fun i => Value.string (L.getD (k + i) ⟨#[]⟩)) := by
              apply List.ext_getElem
              · simp; omega
              · intro i h1 h2
                simp at h2
                simp [List.getElem?_eq_getElem (show k + i < L.length by omega)]
            rw [a1, a2]
            simp
          rw [e1]
          exact h
        have HVV := Lib.hid hVV
        clear hVV
        by_cases hck : c = k
        · have hck2 : (c = k) = True := by simp [hck]
          have HS9 := Lib.hid (show Sl w8 w8.heap.size (some ⟨g, 0, none⟩) ((m - k) * 1) (fun i => .string (L.getD (k + i) ⟨#[]⟩)) by
            rw [show m - k = 0 by omega, Nat.zero_mul]; exact Sl.nil)
          clear hck
          go_wp2_with (at_builtin; refine wpList_appR rfl (.tmp 30) (.tmp 33) 22 rfl wr.heap.size 9 i0 (.string ⟨#[]⟩) 1 16 Tryz.underlying22 I0.out I1.out I2.out I3.out rfl (by omega) _ (k + 1) _ (by rfl) HO8.out (some ⟨g, 0, none⟩) (m - k) (c - k) w8.heap.size (fun i => .string (L.getD (k + i) ⟨#[]⟩)) (by rfl) HS9.out (fun _ => rfl) (by simp only [maxLen]; omega) (by omega) hz8 ?_; intro A9 c9 w9 ho9 hg9 hown9; obtain ⟨g9, hA9, ht9⟩ := HVV.out _ _ _ ho9; subst hA9)
          have hb9 := HB8.out.grown hg9 hz8 (own_lt HO8.out)
          go_ret
          rw [HLEN.out, ← HLN2.out]
          rw [TxR, HLEN.out, ← HLN2.out] at ht9
          exact ⟨g9, c9, rfl, by rw [TxR, HLEN.out, ← HLN2.out]; exact ht9, hb9⟩
        · have hck2 : (c = k) = False := by simp [hck]
          have HS9 := Lib.hid (show Sl w8 w8.heap.size (some ⟨g, k, none⟩) ((m - k) * 1) (fun i => .string (L.getD (k + i) ⟨#[]⟩)) by
            have h1 := Sl.drop (k := k) ((HS.out.below HB8.out).more HB8.out.size)
            rw [Nat.zero_add] at h1
            rw [Nat.mul_one]
            exact h1)
          clear hck
          go_wp2_with (at_builtin; refine wpList_appR rfl (.tmp 30) (.tmp 33) 22 rfl wr.heap.size 9 i0 (.string ⟨#[]⟩) 1 16 Tryz.underlying22 I0.out I1.out I2.out I3.out rfl (by omega) _ (k + 1) _ (by rfl) HO8.out (some ⟨g, k, none⟩) (m - k) (c - k) w8.heap.size (fun i => .string (L.getD (k + i) ⟨#[]⟩)) (by rfl) HS9.out (fun _ => rfl) (by simp only [maxLen]; omega) (by omega) hz8 ?_; intro A9 c9 w9 ho9 hg9 hown9; obtain ⟨g9, hA9, ht9⟩ := HVV.out _ _ _ ho9; subst hA9)
          have hb9 := HB8.out.grown hg9 hz8 (own_lt HO8.out)
          go_ret
          rw [HLEN.out, ← HLN2.out]
          rw [TxR, HLEN.out, ← HLN2.out] at ht9
          exact ⟨g9, c9, rfl, by rw [TxR, HLEN.out, ← HLN2.out]; exact ht9, hb9⟩
      · have t1 : decide ((k : Int) < (m : Int)) = false := by simp; omega
        clear hend
        go_upto_region 5 with (at_builtin; refine wpList_appR rfl (.tmp 21) (.tmp 24) 22 rfl wr.heap.size 9 i0 (.string ⟨#[]⟩) 1 16 Tryz.underlying22 I0.out I1.out I2.out I3.out rfl (by omega) _ 0 _ (by rfl) HO1.out (some ⟨g, 0, none⟩) k c wr.heap.size (fun i => .string (L.getD i ⟨#[]⟩)) (by rfl) HS1.out (fun _ => rfl) (by simp only [maxLen]; omega) (by omega) (by simp) ?_; intro A7 c7 w7 ho7 hg7 hown7)
        rw [Nat.zero_add, List.nil_append, Nat.mul_one] at ho7
        have hb7 := HB1.out.grown hg7 (by simp) (own_lt HO1.out)
        have HO7 := Lib.hid ho7
        have HB7 := Lib.hid hb7
        have hz7 : wr.heap.size ≤ w7.heap.size := hb7.size
        clear ho7 hg7 hown7 hb7
        go_upto_region 6 with (at_builtin; refine wpList_pushT (.tmp 26) (.tmp 28) 22 wr.heap.size 9 (.string .empty) [.string x] 1 16 _ k _ HO7.out rfl rfl Tryz.underlying22 infoStr rfl (by omega) rfl rfl rfl rfl (by intro u hu; simp at hu; subst hu; rfl) (by omega) (by omega) hz7 ?_; intro A8 c8 w8 ho8 hg8)
        have hb8 : Below wr.heap.size wr w8 := HB7.out.trans (below_grown hg8 (fun j e => (HO7.out.lt j e).1) hz7)
        have HO8 := Lib.hid ho8
        have HB8 := Lib.hid hb8
        have hz8 : wr.heap.size ≤ w8.heap.size := hb8.size
        clear ho8 hg8 hb8
        have HLN2 := Lib.hid (show k + 1 + (m - k) = m + 1 by omega)
        have hVV : ∀ W A9 c9, W.ownsRow wr.heap.size 9 1 (.slice A9 (k + 1 + (m - k)) c9) (k + 1 + (m - k)) (((List.range k).map fun i => Value.string (L.getD i ⟨#[]⟩)) ++ [.string x] ++ (List.range ((m - k) * 1)).map (fun i => Value.string (L.getD (k + i) ⟨#[]⟩))) → ∃ g', A9 = some ⟨g', 0, none⟩ ∧ TxR wr.heap.size W g' c9 (putS x L) := fun W A9 c9 h => by
          refine own_tx (n := m + 1) HLEN.out.symm (by omega) ?_
          rw [HLN2.out] at h
          have e1 : (putS x L).map Value.string = ((List.range k).map fun i => Value.string (L.getD i ⟨#[]⟩)) ++ [.string x] ++ (List.range ((m - k) * 1)).map (fun i => Value.string (L.getD (k + i) ⟨#[]⟩)) := by
            rw [HPUT.out, List.map_append, List.map_cons, Nat.mul_one]
            have hM := HM.out
            have a1 : (L.take k).map Value.string = (List.range k).map fun i => Value.string (L.getD i ⟨#[]⟩) := by
              apply List.ext_getElem
              · simp; omega
              · intro i h1 h2
                simp at h2
                simp [List.getElem?_eq_getElem (show i < L.length by omega)]
            have a2 : (L.drop k).map Value.string = (List.range (m - k)).map (fun i => Value.string (L.getD (k + i) ⟨#[]⟩)) := by
              apply List.ext_getElem
              · simp; omega
              · intro i h1 h2
                simp at h2
                simp [List.getElem?_eq_getElem (show k + i < L.length by omega)]
            rw [a1, a2]
            simp
          rw [e1]
          exact h
        have HVV := Lib.hid hVV
        clear hVV
        by_cases hck : c = k
        · have hck2 : (c = k) = True := by simp [hck]
          have HS9 := Lib.hid (show Sl w8 w8.heap.size (some ⟨g, 0, none⟩) ((m - k) * 1) (fun i => .string (L.getD (k + i) ⟨#[]⟩)) by
            rw [show m - k = 0 by omega, Nat.zero_mul]; exact Sl.nil)
          clear hck
          go_wp2_with (at_builtin; refine wpList_appR rfl (.tmp 30) (.tmp 33) 22 rfl wr.heap.size 9 i0 (.string ⟨#[]⟩) 1 16 Tryz.underlying22 I0.out I1.out I2.out I3.out rfl (by omega) _ (k + 1) _ (by rfl) HO8.out (some ⟨g, 0, none⟩) (m - k) (c - k) w8.heap.size (fun i => .string (L.getD (k + i) ⟨#[]⟩)) (by rfl) HS9.out (fun _ => rfl) (by simp only [maxLen]; omega) (by omega) hz8 ?_; intro A9 c9 w9 ho9 hg9 hown9; obtain ⟨g9, hA9, ht9⟩ := HVV.out _ _ _ ho9; subst hA9)
          have hb9 := HB8.out.grown hg9 hz8 (own_lt HO8.out)
          go_ret
          rw [HLEN.out, ← HLN2.out]
          rw [TxR, HLEN.out, ← HLN2.out] at ht9
          exact ⟨g9, c9, rfl, by rw [TxR, HLEN.out, ← HLN2.out]; exact ht9, hb9⟩
        · have hck2 : (c = k) = False := by simp [hck]
          have HS9 := Lib.hid (show Sl w8 w8.heap.size (some ⟨g, k, none⟩) ((m - k) * 1) (fun i => .string (L.getD (k + i) ⟨#[]⟩)) by
            have h1 := Sl.drop (k := k) ((HS.out.below HB8.out).more HB8.out.size)
            rw [Nat.zero_add] at h1
            rw [Nat.mul_one]
            exact h1)
          clear hck
          go_wp2_with (at_builtin; refine wpList_appR rfl (.tmp 30) (.tmp 33) 22 rfl wr.heap.size 9 i0 (.string ⟨#[]⟩) 1 16 Tryz.underlying22 I0.out I1.out I2.out I3.out rfl (by omega) _ (k + 1) _ (by rfl) HO8.out (some ⟨g, k, none⟩) (m - k) (c - k) w8.heap.size (fun i => .string (L.getD (k + i) ⟨#[]⟩)) (by rfl) HS9.out (fun _ => rfl) (by simp only [maxLen]; omega) (by omega) hz8 ?_; intro A9 c9 w9 ho9 hg9 hown9; obtain ⟨g9, hA9, ht9⟩ := HVV.out _ _ _ ho9; subst hA9)
          have hb9 := HB8.out.grown hg9 hz8 (own_lt HO8.out)
          go_ret
          rw [HLEN.out, ← HLN2.out]
          rw [TxR, HLEN.out, ← HLN2.out] at ht9
          exact ⟨g9, c9, rfl, by rw [TxR, HLEN.out, ← HLN2.out]; exact ht9, hb9⟩
end Go.Proofs.YtiefcgmghkkbmaaGreatDoor
