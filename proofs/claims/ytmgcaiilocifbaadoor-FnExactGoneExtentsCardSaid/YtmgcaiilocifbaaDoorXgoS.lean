/-
  GoneExtents: the reference's side.
-/
import Derived.Test.YtmgcaiilocifbaaDoorXgoT
import Derived.Test.YtmgcaiilocifbaaDoorXrS
import Derived.Deep.DeepCutAuto
import Derived.Deep.CutBlock
namespace Go.Proofs.YtmgcaiilocifbaaDoor
open Go Go.ChangeShapes Go.WideShapes Go.ChangeAt Go.RowKit lib
set_option linter.unusedVariables false
set_option linter.unusedSimpArgs false
set_option maxRecDepth 100000
theorem map_take_str (L : List ByteArray) (k : Nat) (hk : k ≤ L.length) : (List.range (k * 1)).map (fun i => Value.string (L.getD i ⟨#[]⟩)) = (L.take k).map Value.string := by
  rw [Nat.mul_one]
  apply List.ext_getElem
  · simp; omega
  · intro i h1 h2
    simp at h1
    simp [List.getD_eq_getElem?_getD, show i < L.length by omega]
theorem map_drop_str (L : List ByteArray) (k : Nat) (hk : k ≤ L.length) : (List.range ((L.length - k) * 1)).map (fun i => Value.string (L.getD (k + i) ⟨#[]⟩)) = (L.drop k).map Value.string := by
  rw [Nat.mul_one]
  apply List.ext_getElem
  · simp
  · intro i h1 h2
    simp at h1
    simp [List.getD_eq_getElem?_getD, show k + i < L.length by omega]
set_option maxHeartbeats 4000000 in
theorem specNameX_any {w : World} {B c : Nat} {A : Option Addr} {L : List ByteArray} (nm : ByteArray) (h : StrR B w A c L) (hB : B ≤ w.heap.size) (hL : L.length ≤ 1000) :
    Calls Tryd.prog 53 #[.slice A L.length c, .string nm] w fun r w' => ∃ A2 c2, r = .returned (.slice A2 (putN nm L).length c2) ∧ StrR B w' A2 c2 (putN nm L) ∧ Below w.heap.size w w' := by
  have hsl := h.sl
  have hcap : L.length ≤ c := by
    rcases h.2 with ⟨hv, _⟩ | ⟨g, cap, cur, hv, _, _, h1, _⟩
    · injection hv with _ e _; omega
    · injection hv with _ _ e; omega
  obtain ⟨i0, hi0, hi1, hi2, hi3⟩ := info_parts infoSt
  have I0 := Lib.hid hi0
  have I1 := Lib.hid hi1
  have I2 := Lib.hid hi2
  have I3 := Lib.hid hi3
  have HS := Lib.hid hsl
  have HH := Lib.hid h
  clear hi0 hi1 hi2 hi3 hsl h
  go_enter Tryd.func53, Tryd.ntmps53
  go_wp2_with fail
  go_loopw [5] (fun s5 wr => ∃ k : Nat, k ≤ L.length ∧ s5 = .int .i64 k ∧ (∀ i, i < k → ltB (L.getD i ⟨#[]⟩) nm = true) ∧ wr = w) (fun i _ => L.length - (intOf i).toNat)
  case atStart => exact ⟨0, Nat.zero_le _, rfl, fun i hi => absurd hi (by omega), rfl⟩
  case round =>
    obtain ⟨k, hk, rfl, hlt, rfl⟩ := hrel
    have HLT := Lib.hid hlt
    clear hlt
    by_cases hcond : k < L.length ∧ ltB (L.getD k ⟨#[]⟩) nm = true
    · obtain ⟨hkl, hltk⟩ := hcond
      obtain ⟨b, o, rfl, hbl, hc⟩ := HS.out k hkl
      dsimp only at hc
      obtain ⟨x, hx⟩ : ∃ x, L.getD k ⟨#[]⟩ = x := ⟨_, rfl⟩
      rw [hx] at hc hltk
      have HX := Lib.hid hx
      have HLK := Lib.hid hltk
      unfold ltB at hltk
      clear hx
      go_wp2_with fail
      exact ⟨⟨k + 1, by omega, by go_num, fun i hi => by
        rcases Nat.lt_succ_iff_lt_or_eq.1 hi with h | rfl
        · exact HLT.out i h
        · rw [HX.out]; exact HLK.out, trivial⟩, by simp [intOf]; omega⟩
    · have hstop : k = L.length ∨ ltB (L.getD k ⟨#[]⟩) nm = false := by
        by_cases hkl : k < L.length
        · right
          cases hq : ltB (L.getD k ⟨#[]⟩) nm with
          | false => rfl
          | true => exact absurd ⟨hkl, hq⟩ hcond
        · left; omega
      obtain ⟨p1, p2⟩ := putN_at L k hk HLT.out hstop
      have HP1 := Lib.hid p1
      have HP2 := Lib.hid p2
      clear p1 p2 hcond
      have hkc : k ≤ c := by omega
      by_cases heq : k < L.length ∧ L.getD k ⟨#[]⟩ = nm
      · obtain ⟨hkl, hke⟩ := heq
        have hputL := HP1.out ⟨hkl, hke⟩
        obtain ⟨b, o, rfl, hbl, hc⟩ := HS.out k hkl
        dsimp only at hc
        have hnl : ltB (L.getD k ⟨#[]⟩) nm = false := by
          rcases hstop with h | h
          · omega
          · exact h
        unfold ltB at hnl
        rw [hke] at hc hnl
        have HPL := Lib.hid hputL
        clear hputL hstop hke
        go_wp2_with fail
        go_ret
        rw [HPL.out]
        exact ⟨_, _, rfl, HH.out, Below.refl _ _⟩
      · have hputL := HP2.out heq
        have HPL := Lib.hid hputL
        have hlenP : (putN nm L).length = k + 1 + (L.length - k) := by rw [hputL]; simp; omega
        have HLP := Lib.hid hlenP
        clear hputL hlenP
        have hb1 := (Below.refl wr.heap.size wr).alloc (Nat.le_refl _) (.cells #[] 9)
        have hs1 : wr.heap.size ≤ (wr.alloc (.cells #[] 9)).heap.size := by simp
        have HN1 := Lib.hid (own_nilE wr 9 1 wr.heap.size (Nat.le_refl _))
        have HB1 := Lib.hid hb1
        have ik1 : (k : Int) ≤ (L.length : Int) := by omega
        have ik2 : (k : Int) ≤ (c : Int) := by omega
        have ilc : (L.length : Int) ≤ (c : Int) := by omega
        -- the place where the loop stopped
        have hfin : ∀ (w4 : World) (A4 : Option Addr) (c4 : Nat), w4.ownsRow wr.heap.size 9 1 (.slice A4 (k + 1 + (L.length - k)) c4) (k + 1 + (L.length - k)) (((L.take k).map Value.string ++ [Value.string nm]) ++ (L.drop k).map Value.string) → StrR B w4 A4 c4 (putN nm L) := fun w4 A4 c4 h4 => by
          unfold StrR
          rw [HLP.out, HPL.out, List.map_append, List.map_append]
          exact own_base h4 hB
        have HFIN := Lib.hid hfin
        clear hfin hb1
        rcases HH.out.2 with ⟨hv, hxs⟩ | ⟨g, cap, cur, hv, hBg, hbk, _⟩
        · injection hv with e1 e2 e3
          subst e1
          have hL0 : L = [] := List.eq_nil_of_length_eq_zero e2
          subst hL0
          subst e3
          obtain rfl : k = 0 := by simpa using hk
          clear hstop heq
          go_wp2_with (first
            | (at_builtin; refine wpList_appR rfl (.tmp 34) (.tmp 37) 22 rfl wr.heap.size 9 i0 (.string .empty) 1 16 Tryd.underlying22 I0.out I1.out I2.out I3.out rfl (by omega) _ 0 [] (by rfl) HN1.out _ 0 _ 0 (fun _ => .string ⟨#[]⟩) (by rfl) (by exact Sl.nil) (fun _ => rfl) (by simp only [maxLen]; omega) (by omega) hs1 ?_; intro A2 c2 w2 ho2 hg2 hown2; have hb2 := HB1.out.grown hg2 hs1 (fun j hj => own_lt HN1.out j hj); have hz2 := hb2.size; rw [Nat.zero_mul, List.range_zero, List.map_nil, List.append_nil] at ho2; have HO2 := Lib.hid ho2; clear ho2)
            | (at_builtin; refine wpList_pushN (.tmp 39) (.tmp 41) 22 wr.heap.size 9 (.string .empty) [.string nm] 1 16 _ _ _ HO2.out rfl rfl Tryd.underlying22 infoSt rfl (by omega) rfl rfl rfl rfl (by intro u hu; simp at hu; subst hu; rfl) (by omega) (by omega) hz2 ?_; intro A3 c3 w3 ho3 hg3; have hb3 := hb2.grown hg3 hz2 (fun j hj => own_lt HO2.out j hj); have hz3 := hb3.size; have HO3 := Lib.hid ho3; clear ho3)
            | (at_builtin; refine wpList_appR rfl (.tmp 43) (.tmp 46) 22 rfl wr.heap.size 9 i0 (.string .empty) 1 16 Tryd.underlying22 I0.out I1.out I2.out I3.out rfl (by omega) _ _ _ (by rfl) HO3.out _ 0 _ 0 (fun _ => .string ⟨#[]⟩) (by rfl) (by exact Sl.nil) (fun _ => rfl) (by simp only [maxLen]; omega) (by omega) hz3 ?_; intro A4 c4 w4 ho4 hg4 hown4; have hb4 := hb3.grown hg4 hz3 (fun j hj => own_lt HO3.out j hj); have HO4 := Lib.hid ho4; clear ho4))
          go_ret
          have h4 := HO4.out
          rw [Nat.zero_mul, List.range_zero, List.map_nil, List.append_nil] at h4
          exact ⟨A4, c4, by rw [HLP.out]; rfl, HFIN.out _ _ _ (by simpa using h4), hb4⟩
        · injection hv with e1 e2 e3
          subst e1 e3
          have ik3 : (0 : Int) ≤ (k : Int) := by omega
          have n1 : ((L.length : Int) - (k : Int)).toNat = L.length - k := by omega
          -- the region ahead of which nothing is known but that the loop has stopped
          have hstop2 : (k < L.length ∧ ltB (L.getD k ⟨#[]⟩) nm = false ∧ L.getD k ⟨#[]⟩ ≠ nm) ∨ k = L.length := by
            by_cases hkl : k < L.length
            · left
              exact ⟨hkl, by rcases hstop with h | h; omega; exact h, fun e => heq ⟨hkl, e⟩⟩
            · right; omega
          clear hstop heq
          rcases hstop2 with ⟨hkl, hnl, hne⟩ | hkl
          · obtain ⟨b, o, e4, hbl, hc⟩ := HS.out k hkl
            simp only [Option.some.injEq, Addr.mk.injEq, and_true] at e4
            obtain ⟨rfl, rfl⟩ := e4
            dsimp only at hc
            rw [Nat.zero_add] at hc
            have i6 : (c = k) = False := by simp; omega
            obtain ⟨x, hx⟩ : ∃ x, L.getD k ⟨#[]⟩ = x := ⟨_, rfl⟩
            rw [hx] at hc hnl hne
            unfold ltB at hnl
            have q1 : (x.toList == nm.toList) = false := str_eq_false hne
            clear hne hx
            go_wp2_with (first
              | (at_builtin; refine wpList_appR rfl (.tmp 34) (.tmp 37) 22 rfl wr.heap.size 9 i0 (.string .empty) 1 16 Tryd.underlying22 I0.out I1.out I2.out I3.out rfl (by omega) _ 0 [] (by rfl) HN1.out (some ⟨g, 0, none⟩) k _ wr.heap.size (fun i => .string (L.getD i ⟨#[]⟩)) (by rfl) (by rw [Nat.mul_one]; exact (HS.out.below HB1.out).less hk) (fun _ => rfl) (by simp only [maxLen]; omega) (by omega) hs1 ?_; intro A2 c2 w2 ho2 hg2 hown2; have hb2 := HB1.out.grown hg2 hs1 (fun j hj => own_lt HN1.out j hj); have hz2 := hb2.size; rw [map_take_str L k hk, List.nil_append, Nat.zero_add] at ho2; have HO2 := Lib.hid ho2; clear ho2)
              | (at_builtin; refine wpList_pushN (.tmp 39) (.tmp 41) 22 wr.heap.size 9 (.string .empty) [.string nm] 1 16 _ k _ HO2.out rfl rfl Tryd.underlying22 infoSt rfl (by omega) rfl (by first | rfl | simp) rfl rfl (by intro u hu; simp at hu; subst hu; rfl) (by omega) (by omega) hz2 ?_; intro A3 c3 w3 ho3 hg3; have hb3 := hb2.grown hg3 hz2 (fun j hj => own_lt HO2.out j hj); have hz3 := hb3.size; have HO3 := Lib.hid ho3; clear ho3)
              | (at_builtin; refine wpList_appR rfl (.tmp 43) (.tmp 46) 22 rfl wr.heap.size 9 i0 (.string .empty) 1 16 Tryd.underlying22 I0.out I1.out I2.out I3.out rfl (by omega) _ (k + 1) _ (by rfl) HO3.out _ (L.length - k) _ wr.heap.size (fun i => .string (L.getD (k + i) ⟨#[]⟩)) (by rfl) (by rw [Nat.mul_one]; have := Sl.drop (k := k) (HS.out.below (hb3)); simpa using this) (fun _ => rfl) (by simp only [maxLen]; omega) (by omega) hz3 ?_; intro A4 c4 w4 ho4 hg4 hown4; have hb4 := hb3.grown hg4 hz3 (fun j hj => own_lt HO3.out j hj); have HO4 := Lib.hid ho4; clear ho4))
            go_ret
            have h4 := HO4.out
            rw [map_drop_str L k hk] at h4
            exact ⟨A4, c4, by rw [HLP.out]; rfl, HFIN.out _ _ _ h4, hb4⟩
          · subst hkl
            by_cases hck : c = L.length
            · have i6 : (c = L.length) = True := by simp [hck]
              go_wp2_with (first
                | (at_builtin; refine wpList_appR rfl (.tmp 34) (.tmp 37) 22 rfl wr.heap.size 9 i0 (.string .empty) 1 16 Tryd.underlying22 I0.out I1.out I2.out I3.out rfl (by omega) _ 0 [] (by rfl) HN1.out (some ⟨g, 0, none⟩) L.length _ wr.heap.size (fun i => .string (L.getD i ⟨#[]⟩)) (by rfl) (by rw [Nat.mul_one]; exact (HS.out.below HB1.out)) (fun _ => rfl) (by simp only [maxLen]; omega) (by omega) hs1 ?_; intro A2 c2 w2 ho2 hg2 hown2; have hb2 := HB1.out.grown hg2 hs1 (fun j hj => own_lt HN1.out j hj); have hz2 := hb2.size; rw [map_take_str L L.length (Nat.le_refl _), List.nil_append, Nat.zero_add] at ho2; have HO2 := Lib.hid ho2; clear ho2)
                | (at_builtin; refine wpList_pushN (.tmp 39) (.tmp 41) 22 wr.heap.size 9 (.string .empty) [.string nm] 1 16 _ L.length _ HO2.out rfl rfl Tryd.underlying22 infoSt rfl (by omega) rfl (by first | rfl | simp) rfl rfl (by intro u hu; simp at hu; subst hu; rfl) (by omega) (by omega) hz2 ?_; intro A3 c3 w3 ho3 hg3; have hb3 := hb2.grown hg3 hz2 (fun j hj => own_lt HO2.out j hj); have hz3 := hb3.size; have HO3 := Lib.hid ho3; clear ho3)
                | (at_builtin; refine wpList_appR rfl (.tmp 43) (.tmp 46) 22 rfl wr.heap.size 9 i0 (.string .empty) 1 16 Tryd.underlying22 I0.out I1.out I2.out I3.out rfl (by omega) _ (L.length + 1) _ (by rfl) HO3.out _ 0 _ 0 (fun _ => .string ⟨#[]⟩) (by rfl) (by exact Sl.nil) (fun _ => rfl) (by simp only [maxLen]; omega) (by omega) hz3 ?_; intro A4 c4 w4 ho4 hg4 hown4; have hb4 := hb3.grown hg4 hz3 (fun j hj => own_lt HO3.out j hj); have HO4 := Lib.hid ho4; clear ho4))
              go_ret
              have h4 := HO4.out
              rw [Nat.zero_mul, List.range_zero, List.map_nil] at h4
              have hf := HFIN.out w4 A4 c4
              rw [Nat.sub_self, List.drop_length, List.map_nil] at hf
              exact ⟨A4, c4, by rw [HLP.out, Nat.sub_self]; rfl, hf h4, hb4⟩
            · have i6 : (c = L.length) = False := by simp [hck]
              go_wp2_with (first
                | (at_builtin; refine wpList_appR rfl (.tmp 34) (.tmp 37) 22 rfl wr.heap.size 9 i0 (.string .empty) 1 16 Tryd.underlying22 I0.out I1.out I2.out I3.out rfl (by omega) _ 0 [] (by rfl) HN1.out (some ⟨g, 0, none⟩) L.length _ wr.heap.size (fun i => .string (L.getD i ⟨#[]⟩)) (by rfl) (by rw [Nat.mul_one]; exact (HS.out.below HB1.out)) (fun _ => rfl) (by simp only [maxLen]; omega) (by omega) hs1 ?_; intro A2 c2 w2 ho2 hg2 hown2; have hb2 := HB1.out.grown hg2 hs1 (fun j hj => own_lt HN1.out j hj); have hz2 := hb2.size; rw [map_take_str L L.length (Nat.le_refl _), List.nil_append, Nat.zero_add] at ho2; have HO2 := Lib.hid ho2; clear ho2)
                | (at_builtin; refine wpList_pushN (.tmp 39) (.tmp 41) 22 wr.heap.size 9 (.string .empty) [.string nm] 1 16 _ L.length _ HO2.out rfl rfl Tryd.underlying22 infoSt rfl (by omega) rfl (by first | rfl | simp) rfl rfl (by intro u hu; simp at hu; subst hu; rfl) (by omega) (by omega) hz2 ?_; intro A3 c3 w3 ho3 hg3; have hb3 := hb2.grown hg3 hz2 (fun j hj => own_lt HO2.out j hj); have hz3 := hb3.size; have HO3 := Lib.hid ho3; clear ho3)
                | (at_builtin; refine wpList_appR rfl (.tmp 43) (.tmp 46) 22 rfl wr.heap.size 9 i0 (.string .empty) 1 16 Tryd.underlying22 I0.out I1.out I2.out I3.out rfl (by omega) _ (L.length + 1) _ (by rfl) HO3.out _ 0 _ 0 (fun _ => .string ⟨#[]⟩) (by rfl) (by exact Sl.nil) (fun _ => rfl) (by simp only [maxLen]; omega) (by omega) hz3 ?_; intro A4 c4 w4 ho4 hg4 hown4; have hb4 := hb3.grown hg4 hz3 (fun j hj => own_lt HO3.out j hj); have HO4 := Lib.hid ho4; clear ho4))
              go_ret
              have h4 := HO4.out
              rw [Nat.zero_mul, List.range_zero, List.map_nil] at h4
              have hf := HFIN.out w4 A4 c4
              rw [Nat.sub_self, List.drop_length, List.map_nil] at hf
              exact ⟨A4, c4, by rw [HLP.out, Nat.sub_self]; rfl, hf h4, hb4⟩
end Go.Proofs.YtmgcaiilocifbaaDoor
