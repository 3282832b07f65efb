/-
  The reference's insertion of a text in order (l18Put), and the names of files that are missing (l22Missing).
-/
import Derived.Test.YthhdjmmbafpmpaaChgP
import Derived.Test.YthhdjmmbafpmpaaStrT
import Derived.Test.YthhdjmmbafpmpaaAppR
import Derived.Deep.CutBlock
import Derived.Deep.DeepCutAuto
namespace Go.Proofs.Ythhdjmmbafpmpaa
open Go Go.ChangeShapes Go.WideShapes Go.ChangeAt Go.RowKit lib
set_option linter.unusedVariables false
set_option maxRecDepth 100000
theorem own_cap1 {w : World} {B e n c k : Nat} {A : Option Addr} {xs : List Value} (h : w.ownsRow B e k (.slice A n c) n xs) : n ≤ c := by
  rcases h.2 with ⟨hv, h0⟩ | ⟨g, cap, cur, hv, hb, hg, hnc, _⟩
  · omega
  · injection hv with _ _ h3
    omega
theorem take_str (L : List ByteArray) (i : Nat) (h : i ≤ L.length) : (List.range (i * 1)).map (fun (j : Nat) => Value.string (L.getD j ⟨#[]⟩)) = (L.take i).map Value.string := by
  apply List.ext_getElem
  · simp; omega
  · intro j h1 h2
    simp at h1
    simp only [List.getElem_map, List.getElem_range, List.getElem_take]
    congr 1
    simp [List.getD_eq_getElem?_getD, show j < L.length by omega]
theorem drop_str (L : List ByteArray) (i : Nat) : (List.range ((L.length - i) * 1)).map (fun (j : Nat) => Value.string (L.getD (i * 1 + j) ⟨#[]⟩)) = (L.drop i).map Value.string := by
  apply List.ext_getElem
  · simp
  · intro j h1 h2
    simp at h1
    simp only [List.getElem_map, List.getElem_range, List.getElem_drop, Nat.mul_one]
    congr 1
    simp [List.getD_eq_getElem?_getD, show i + j < L.length by omega]
theorem put_str {L : List ByteArray} {i : Nat} {x : ByteArray} (h : i ≤ L.length) (hp : putS x L = L.take i ++ x :: L.drop i) :
    (((List.range (i * 1)).map (fun (j : Nat) => Value.string (L.getD j ⟨#[]⟩)) ++ [.string x]) ++ (List.range ((L.length - i) * 1)).map fun (j : Nat) => Value.string (L.getD (i * 1 + j) ⟨#[]⟩)) = (putS x L).map Value.string := by
  rw [take_str L i h, drop_str, hp, List.map_append, List.map_cons]
  simp
theorem putS_len {x : ByteArray} : ∀ L : List ByteArray, (putS x L).length = L.length + 1
  | [] => rfl
  | y :: r => by
    rw [putS]
    split
    · simp [putS_len r]
    · simp
set_option maxHeartbeats 4000000 in
theorem specPut_any {w : World} {B ga c' : Nat} {L : List ByteArray} (s : ByteArray) (h : StrR B w (some ⟨ga, 0, none⟩) c' L) (hl : L.length ≤ 1048576) :
    Calls Try.prog 54 #[.slice (some ⟨ga, 0, none⟩) L.length c', .string s] w fun r w' => ∃ g2 c2, r = .returned (.slice (some ⟨g2, 0, none⟩) (putS s L).length c2) ∧ StrR w.heap.size w' (some ⟨g2, 0, none⟩) c2 (putS s L) ∧ Below w.heap.size w w' := by
  obtain ⟨i0, hi0, hi1, hi2, hi3⟩ := info_parts infoSt
  have HO := Lib.hid h
  clear h
  go_enter Try.func54, Try.ntmps54
  go_wp2_with fail
  go_loop [5] (fun s5 => ∃ i : Nat, i ≤ L.length ∧ s5 = .int .i64 i ∧ (∀ j, j < i → ltB (L.getD j ⟨#[]⟩) s = true)) (fun s => L.length - (intOf s).toNat)
  case atStart => exact ⟨0, by omega, rfl, fun j hj => by omega⟩
  case round =>
    obtain ⟨i, hi, rfl, hlts⟩ := hrel
    have HLTS := Lib.hid hlts
    clear hlts
    by_cases hgo : i < L.length ∧ ltB (L.getD i ⟨#[]⟩) s = true
    · obtain ⟨hil, hlt2⟩ := hgo
      have HL2 := Lib.hid hlt2
      have hil' : (i : Int) < L.length := by omega
      obtain ⟨b3, o3, e3, _, h0⟩ := HO.out.sl i hil
      injection e3 with e3
      injection e3 with e3 e4 _
      subst e3 e4
      dsimp only at h0
      rw [Nat.zero_add] at h0
      obtain ⟨y, hy⟩ : ∃ y, L.getD i ⟨#[]⟩ = y := ⟨_, rfl⟩
      rw [hy] at h0 hlt2
      unfold ltB at hlt2
      clear hy
      go_wp2_with fail
      go_round
      case rel => exact ⟨i + 1, by omega, by go_num, fun j hj => (by
        rcases Nat.lt_or_ge j i with h | h
        · exact HLTS.out j h
        · obtain rfl : j = i := by omega
          exact HL2.out)⟩
      case measure => simp [intOf]; omega
    · have HPUT := Lib.hid (show putS s L = L.take i ++ s :: L.drop i from putS_at L i hi HLTS.out (by
        by_cases h : i = L.length
        · exact .inl h
        · right
          cases hb : ltB (L.getD i ⟨#[]⟩) s
          · rfl
          · exact absurd ⟨by omega, hb⟩ hgo))
      have HGO := Lib.hid hgo
      clear hgo
      have HPE := Lib.hid (put_str hi HPUT.out)
      have HPL := Lib.hid (putS_len (x := s) L)
      have HLN2 := Lib.hid (show i + 1 + (L.length - i) = L.length + 1 by omega)
      have hli : L.length - i ≤ c' - i := by have := own_cap1 HO.out; omega
      have hcap := own_cap1 HO.out
      have hi2' : (i : Int) ≤ c' := by omega
      have hi3' : i ≤ c' := by omega
      have hnilE := own_nilE w 9 1 w.heap.size (Nat.le_refl _)
      have halE := (Below.refl w.heap.size w).alloc (Nat.le_refl _) (.cells #[] 9)
      have HSL := Lib.hid ((HO.out.below halE).sl)
      have HNE := Lib.hid hnilE
      have HALE := Lib.hid halE
      clear hnilE halE
      have hbr : (i < L.length ∧ ltB (L.getD i ⟨#[]⟩) s = false) ∨ ¬ i < L.length := by
        by_cases hil : i < L.length
        · left
          refine ⟨hil, ?_⟩
          cases hb : ltB (L.getD i ⟨#[]⟩) s
          · rfl
          · exact absurd ⟨hil, hb⟩ HGO.out
        · exact .inr hil
      rcases hbr with ⟨hil, hlt2⟩ | hil
      · have hil' : (i : Int) < L.length := by omega
        obtain ⟨b3, o3, e3, _, h0⟩ := HO.out.sl i hil
        injection e3 with e3
        injection e3 with e3 e4 _
        subst e3 e4
        dsimp only at h0
        rw [Nat.zero_add] at h0
        obtain ⟨y, hy⟩ : ∃ y, L.getD i ⟨#[]⟩ = y := ⟨_, rfl⟩
        rw [hy] at h0 hlt2
        unfold ltB at hlt2
        clear hy
        go_upto_region 5 with (at_builtin; refine wpList_appR rfl (.tmp 21) (.tmp 24) 34 rfl w.heap.size 9 i0 _ 1 16 Try.underlying34 hi0 hi1 hi2 hi3 rfl (by omega) (.slice (some ⟨w.heap.size, 0, none⟩) 0 0) 0 [] rfl HNE.out (some ⟨ga, 0, none⟩) i c' _ (fun j => .string (L.getD j ⟨#[]⟩)) rfl (HSL.out.less (by omega)) (fun _ => rfl) (by simp only [maxLen]; omega) (by omega) (by simp) ?_; intro A9 c9 w9 ho9 hg9 hn9)
        clear h0 hlt2 hil'
        rw [Nat.zero_add, List.nil_append] at ho9
        have hb9 := HALE.out.grown hg9 (by simp) (own_lt HNE.out)
        have HO9 := Lib.hid ho9
        have hz9 : w.heap.size ≤ w9.heap.size := hb9.size
        have hal9 := hb9.alloc hb9.size (.cells #[.string s] 9)
        have HAL9 := Lib.hid hal9
        have HSN := Lib.hid ((Rw.new w9 9 #[.string s]).sl (n := 1 * 1) (f := fun j => .string s) (by
          intro j hj
          obtain rfl : j = 0 := by omega
          rfl))
        clear ho9 hg9 hn9 hb9 hal9
        go_upto_region 6 with (at_builtin; refine wpList_appR rfl (.tmp 26) (.tmp 28) 34 rfl w.heap.size 9 i0 _ 1 16 Try.underlying34 hi0 hi1 hi2 hi3 rfl (by omega) (.slice A9 i c9) i _ rfl (HO9.out.alloc _) (some ⟨w9.heap.size, 0, none⟩) 1 1 _ (fun j => .string s) rfl HSN.out (fun _ => rfl) (by simp only [maxLen]; omega) (by omega) (by simp; omega) ?_; intro A10 c10 w10 ho10 hg10 hn10)
        have hb10 := HAL9.out.grown hg10 (by simp; omega) (own_lt HO9.out)
        have HO10 := Lib.hid ho10
        have HBB10 := Lib.hid hb10
        have hz10 : w.heap.size ≤ w10.heap.size := hb10.size
        have HOO := Lib.hid (show Sl w10 w10.heap.size (some ⟨ga, 0, none⟩) L.length (fun j => .string (L.getD j ⟨#[]⟩)) from (HO.out.below hb10).sl)
        clear ho10 hg10 hn10 hb10
        by_cases hci : c' = i
        · have hci2 : (c' = i) = True := by simp [hci]
          have HS11 := Lib.hid (show Sl w10 w10.heap.size (some ⟨ga, 0, none⟩) ((L.length - i) * 1) (fun j => .string (L.getD (i * 1 + j) ⟨#[]⟩)) by
            rw [show L.length - i = 0 by omega, Nat.zero_mul]; exact Sl.nil)
          clear hci
          go_wp2_with (at_builtin; refine wpList_appR rfl (.tmp 30) (.tmp 33) 34 rfl w.heap.size 9 i0 _ 1 16 Try.underlying34 hi0 hi1 hi2 hi3 rfl (by omega) (.slice A10 (i + 1) c10) (i + 1) _ rfl HO10.out (some ⟨ga, 0, none⟩) (L.length - i) (c' - i) _ (fun j => .string (L.getD (i * 1 + j) ⟨#[]⟩)) rfl HS11.out (fun _ => rfl) (by simp only [maxLen]; omega) (by omega) (by omega) ?_; intro A11 c11 w11 ho11 hg11 hn11; obtain ⟨g11, cap11, hv11, _, _⟩ := ho11.form (by omega); injection hv11 with hA11 _ hC11; subst hA11 hC11)
          have hb11 := HBB10.out.grown hg11 hz10 (own_lt HO10.out)
          have HO11 := Lib.hid ho11
          clear ho11 hg11 hn11
          go_ret
          refine ⟨g11, c11, by rw [HPL.out, HLN2.out]; rfl, ?_, hb11⟩
          have h11 := HO11.out
          have e2 : (List.range (1 * 1)).map (fun _ : Nat => Value.string s) = [.string s] := rfl
          rw [e2, HPE.out, HLN2.out] at h11
          unfold StrR
          rw [HPL.out]
          exact h11
        · have hci2 : (c' = i) = False := by simp [hci]
          have HS11 := Lib.hid (show Sl w10 w10.heap.size (some ⟨ga, i, none⟩) ((L.length - i) * 1) (fun j => .string (L.getD (i * 1 + j) ⟨#[]⟩)) by
            have := Sl.drop (k := i) HOO.out
            rw [Nat.zero_add] at this
            rw [Nat.mul_one, Nat.mul_one]
            exact this)
          clear hci
          go_wp2_with (at_builtin; refine wpList_appR rfl (.tmp 30) (.tmp 33) 34 rfl w.heap.size 9 i0 _ 1 16 Try.underlying34 hi0 hi1 hi2 hi3 rfl (by omega) (.slice A10 (i + 1) c10) (i + 1) _ rfl HO10.out (some ⟨ga, i, none⟩) (L.length - i) (c' - i) _ (fun j => .string (L.getD (i * 1 + j) ⟨#[]⟩)) rfl HS11.out (fun _ => rfl) (by simp only [maxLen]; omega) (by omega) (by omega) ?_; intro A11 c11 w11 ho11 hg11 hn11; obtain ⟨g11, cap11, hv11, _, _⟩ := ho11.form (by omega); injection hv11 with hA11 _ hC11; subst hA11 hC11)
          have hb11 := HBB10.out.grown hg11 hz10 (own_lt HO10.out)
          have HO11 := Lib.hid ho11
          clear ho11 hg11 hn11
          go_ret
          refine ⟨g11, c11, by rw [HPL.out, HLN2.out]; rfl, ?_, hb11⟩
          have h11 := HO11.out
          have e2 : (List.range (1 * 1)).map (fun _ : Nat => Value.string s) = [.string s] := rfl
          rw [e2, HPE.out, HLN2.out] at h11
          unfold StrR
          rw [HPL.out]
          exact h11
      · have hil' : decide ((i : Int) < L.length) = false := by simp; omega
        go_upto_region 5 with (at_builtin; refine wpList_appR rfl (.tmp 21) (.tmp 24) 34 rfl w.heap.size 9 i0 _ 1 16 Try.underlying34 hi0 hi1 hi2 hi3 rfl (by omega) (.slice (some ⟨w.heap.size, 0, none⟩) 0 0) 0 [] rfl HNE.out (some ⟨ga, 0, none⟩) i c' _ (fun j => .string (L.getD j ⟨#[]⟩)) rfl (HSL.out.less (by omega)) (fun _ => rfl) (by simp only [maxLen]; omega) (by omega) (by simp) ?_; intro A9 c9 w9 ho9 hg9 hn9)
        clear hil'
        rw [Nat.zero_add, List.nil_append] at ho9
        have hb9 := HALE.out.grown hg9 (by simp) (own_lt HNE.out)
        have HO9 := Lib.hid ho9
        have hz9 : w.heap.size ≤ w9.heap.size := hb9.size
        have hal9 := hb9.alloc hb9.size (.cells #[.string s] 9)
        have HAL9 := Lib.hid hal9
        have HSN := Lib.hid ((Rw.new w9 9 #[.string s]).sl (n := 1 * 1) (f := fun j => .string s) (by
          intro j hj
          obtain rfl : j = 0 := by omega
          rfl))
        clear ho9 hg9 hn9 hb9 hal9
        go_upto_region 6 with (at_builtin; refine wpList_appR rfl (.tmp 26) (.tmp 28) 34 rfl w.heap.size 9 i0 _ 1 16 Try.underlying34 hi0 hi1 hi2 hi3 rfl (by omega) (.slice A9 i c9) i _ rfl (HO9.out.alloc _) (some ⟨w9.heap.size, 0, none⟩) 1 1 _ (fun j => .string s) rfl HSN.out (fun _ => rfl) (by simp only [maxLen]; omega) (by omega) (by simp; omega) ?_; intro A10 c10 w10 ho10 hg10 hn10)
        have hb10 := HAL9.out.grown hg10 (by simp; omega) (own_lt HO9.out)
        have HO10 := Lib.hid ho10
        have HBB10 := Lib.hid hb10
        have hz10 : w.heap.size ≤ w10.heap.size := hb10.size
        have HOO := Lib.hid (show Sl w10 w10.heap.size (some ⟨ga, 0, none⟩) L.length (fun j => .string (L.getD j ⟨#[]⟩)) from (HO.out.below hb10).sl)
        clear ho10 hg10 hn10 hb10
        by_cases hci : c' = i
        · have hci2 : (c' = i) = True := by simp [hci]
          have HS11 := Lib.hid (show Sl w10 w10.heap.size (some ⟨ga, 0, none⟩) ((L.length - i) * 1) (fun j => .string (L.getD (i * 1 + j) ⟨#[]⟩)) by
            rw [show L.length - i = 0 by omega, Nat.zero_mul]; exact Sl.nil)
          clear hci
          go_wp2_with (at_builtin; refine wpList_appR rfl (.tmp 30) (.tmp 33) 34 rfl w.heap.size 9 i0 _ 1 16 Try.underlying34 hi0 hi1 hi2 hi3 rfl (by omega) (.slice A10 (i + 1) c10) (i + 1) _ rfl HO10.out (some ⟨ga, 0, none⟩) (L.length - i) (c' - i) _ (fun j => .string (L.getD (i * 1 + j) ⟨#[]⟩)) rfl HS11.out (fun _ => rfl) (by simp only [maxLen]; omega) (by omega) (by omega) ?_; intro A11 c11 w11 ho11 hg11 hn11; obtain ⟨g11, cap11, hv11, _, _⟩ := ho11.form (by omega); injection hv11 with hA11 _ hC11; subst hA11 hC11)
          have hb11 := HBB10.out.grown hg11 hz10 (own_lt HO10.out)
          have HO11 := Lib.hid ho11
          clear ho11 hg11 hn11
          go_ret
          refine ⟨g11, c11, by rw [HPL.out, HLN2.out]; rfl, ?_, hb11⟩
          have h11 := HO11.out
          have e2 : (List.range (1 * 1)).map (fun _ : Nat => Value.string s) = [.string s] := rfl
          rw [e2, HPE.out, HLN2.out] at h11
          unfold StrR
          rw [HPL.out]
          exact h11
        · have hci2 : (c' = i) = False := by simp [hci]
          have HS11 := Lib.hid (show Sl w10 w10.heap.size (some ⟨ga, i, none⟩) ((L.length - i) * 1) (fun j => .string (L.getD (i * 1 + j) ⟨#[]⟩)) by
            have := Sl.drop (k := i) HOO.out
            rw [Nat.zero_add] at this
            rw [Nat.mul_one, Nat.mul_one]
            exact this)
          clear hci
          go_wp2_with (at_builtin; refine wpList_appR rfl (.tmp 30) (.tmp 33) 34 rfl w.heap.size 9 i0 _ 1 16 Try.underlying34 hi0 hi1 hi2 hi3 rfl (by omega) (.slice A10 (i + 1) c10) (i + 1) _ rfl HO10.out (some ⟨ga, i, none⟩) (L.length - i) (c' - i) _ (fun j => .string (L.getD (i * 1 + j) ⟨#[]⟩)) rfl HS11.out (fun _ => rfl) (by simp only [maxLen]; omega) (by omega) (by omega) ?_; intro A11 c11 w11 ho11 hg11 hn11; obtain ⟨g11, cap11, hv11, _, _⟩ := ho11.form (by omega); injection hv11 with hA11 _ hC11; subst hA11 hC11)
          have hb11 := HBB10.out.grown hg11 hz10 (own_lt HO10.out)
          have HO11 := Lib.hid ho11
          clear ho11 hg11 hn11
          go_ret
          refine ⟨g11, c11, by rw [HPL.out, HLN2.out]; rfl, ?_, hb11⟩
          have h11 := HO11.out
          have e2 : (List.range (1 * 1)).map (fun _ : Nat => Value.string s) = [.string s] := rfl
          rw [e2, HPE.out, HLN2.out] at h11
          unfold StrR
          rw [HPL.out]
          exact h11
set_option maxHeartbeats 8000000 in
theorem specMissing_any {w : World} {B n m c d ga c' : Nat} {A Bd : Option Addr} {s t : Nat → ByteArray} {L0 : List ByteArray} (hn : n ≤ 16) (hm : m ≤ 16) (hs : Sl w w.heap.size A (n * 2) (fun i => .string (s i))) (ht : Sl w w.heap.size Bd (m * 2) (fun i => .string (t i))) (h : StrR B w (some ⟨ga, 0, none⟩) c' L0) (hB : B ≤ w.heap.size) (hl : L0.length ≤ 1048) :
    Calls Try.prog 37 #[.slice A n c, .slice Bd m d, .slice (some ⟨ga, 0, none⟩) L0.length c'] w fun r w' => ∃ g2 c2, r = .returned (.slice (some ⟨g2, 0, none⟩) (missS (filS t m) (filS s n) L0).length c2) ∧ StrR B w' (some ⟨g2, 0, none⟩) c2 (missS (filS t m) (filS s n) L0) ∧ Below w.heap.size w w' := by
  have HS := Lib.hid hs
  have HT := Lib.hid ht
  have HO := Lib.hid h
  obtain ⟨F, hF⟩ : ∃ F, filS s n = F := ⟨_, rfl⟩
  obtain ⟨G, hG⟩ : ∃ G, filS t m = G := ⟨_, rfl⟩
  rw [hF, hG]
  have HF := Lib.hid hF
  have HG := Lib.hid hG
  obtain ⟨RES, hRES⟩ : ∃ R, missS G F L0 = R := ⟨_, rfl⟩
  have HRES := Lib.hid hRES
  rw [hRES]
  clear hs ht h hF hG hRES
  go_enter Try.func37, Try.ntmps37
  go_wp2_with fail
  go_loopw [2, 7] (fun s2 s7 wr => ∃ (k ga c' : Nat) (L : List ByteArray), k ≤ n ∧ s2 = .slice (some ⟨ga, 0, none⟩) L.length c' ∧ s7 = .int .i64 k ∧ StrR B wr (some ⟨ga, 0, none⟩) c' L ∧ L.length ≤ L0.length + k ∧ missS G (F.drop k) L = RES ∧ Below w.heap.size w wr) (fun _ s _ => n - (intOf s).toNat)
  case atStart => exact ⟨0, ga, c', L0, by omega, rfl, rfl, HO.out, by omega, HRES.out, Below.refl _ _⟩
  case round =>
    obtain ⟨k, ga, c', L, hk, rfl, rfl, hst, hln, hmi, hb⟩ := hrel
    have hbz := hb.size
    have HST := Lib.hid hst
    have HB := Lib.hid hb
    have HMI := Lib.hid hmi
    clear hst hb hmi
    by_cases hlt : k < n
    · have hFd := filS_drop (s := s) hlt
      rw [HF.out] at hFd
      rw [hFd] at HMI
      obtain ⟨b', o, hA3, hbb, h0, h1⟩ := HS.out.two hlt
      subst hA3
      obtain ⟨x, hx⟩ : ∃ x, s (k * 2) = x := ⟨_, rfl⟩
      obtain ⟨y, hy⟩ : ∃ y, s (k * 2 + 1) = y := ⟨_, rfl⟩
      simp only [hx] at h0
      simp only [hy] at h1
      rw [hx, hy] at HMI
      have H0 := Lib.hid h0
      have H1 := Lib.hid h1
      clear hFd hx hy h0 h1
      go_upto_block 2 with fail
      go_cut [8] (fun s8 wc => ∃ b : Bool, s8 = .bool b ∧ (b = true ↔ (x, y) ∈ G) ∧ Below w.heap.size w wc ∧ StrR B wc (some ⟨ga, 0, none⟩) c' L)
      case first =>
        go_wp2_with fail
        go_loopw [8, 9] (fun s8 s9 wc => ∃ (j : Nat) (b : Bool), j ≤ m ∧ s8 = .bool b ∧ s9 = .int .i64 j ∧ (b = true ↔ (x, y) ∈ G.take j) ∧ Below w.heap.size w wc ∧ StrR B wc (some ⟨ga, 0, none⟩) c' L) (fun _ s _ => m - (intOf s).toNat)
        case atStart => exact ⟨0, false, by omega, rfl, rfl, by simp, HB.out, HST.out⟩
        case round =>
          clear HST HB hbz
          obtain ⟨j, b, hj, rfl, rfl, hbm, hb, hst⟩ := hrel
          have hbz := hb.size
          have HST := Lib.hid hst
          have HB := Lib.hid hb
          have HBM := Lib.hid hbm
          have h0 := (hb.cell (p := ⟨b', o + k * 2, none⟩) hbb).trans H0.out
          have h1 := (hb.cell (p := ⟨b', o + k * 2 + 1, none⟩) hbb).trans H1.out
          clear hst hb hbm
          by_cases hlt2 : j < m
          · have hTk := filS_take (s := t) hlt2
            rw [HG.out] at hTk
            obtain ⟨b2', o2, hA4, hbb2, k0, k1⟩ := HT.out.two hlt2
            subst hA4
            obtain ⟨x2, hx2⟩ : ∃ x, t (j * 2) = x := ⟨_, rfl⟩
            obtain ⟨y2, hy2⟩ : ∃ y, t (j * 2 + 1) = y := ⟨_, rfl⟩
            simp only [hx2] at k0
            simp only [hy2] at k1
            rw [hx2, hy2] at hTk
            have HTK := Lib.hid hTk
            have g0 := (HB.out.cell (p := ⟨b2', o2 + j * 2, none⟩) hbb2).trans k0
            have g1 := (HB.out.cell (p := ⟨b2', o2 + j * 2 + 1, none⟩) hbb2).trans k1
            clear k0 k1 hx2 hy2 hTk
            cases b
            · obtain ⟨e, he⟩ : ∃ e, fileEqB x y x2 y2 = e := ⟨_, rfl⟩
              have HN := Lib.hid (show e = true ↔ (x, y) ∈ G.take (j + 1) by
                rw [HTK.out, List.mem_append, List.mem_singleton, ← HBM.out, ← he]
                unfold fileEqB
                rw [decide_eq_true_eq, Prod.mk.injEq]
                simp)
              have hjm : (j : Int) < m := by omega
              cases e
              all_goals
                go_wp2_with fail
                go_quiet (fail)
                rename_i nq
                go_wp2_with fail
                go_roundw
                case rel => exact ⟨j + 1, _, by omega, rfl, by go_num, by simpa using HN.out, HB.out.drewN nq, HST.out.below ((Below.refl _ _).drewN nq)⟩
                case measure => simp [intOf]; omega
            · have HN := Lib.hid (show true = true ↔ (x, y) ∈ G.take (j + 1) by
                rw [HTK.out, List.mem_append]
                exact ⟨fun h => .inl (HBM.out.1 h), fun _ => rfl⟩)
              clear g0 g1
              go_wp2_with fail
              go_quiet (fail)
              rename_i nq
              go_wp2_with fail
              go_roundw
              case rel => exact ⟨j + 1, true, by omega, rfl, by go_num, by simpa using HN.out, HB.out.drewN nq, HST.out.below ((Below.refl _ _).drewN nq)⟩
              case measure => simp [intOf]; omega
          · obtain rfl : j = m := by omega
            have HN := Lib.hid (show b = true ↔ (x, y) ∈ G by
              have := HBM.out
              rwa [List.take_of_length_le (by rw [← HG.out, filS_len]; omega)] at this)
            clear h0 h1
            go_wp2_with fail
            go_meet
            exact ⟨b, rfl, HN.out, HB.out, HST.out⟩
      case rest =>
        obtain ⟨sm, rfl, hsm, hb, hst⟩ := hcut
        have HSM := Lib.hid hsm
        have HB := Lib.hid hb
        have HST := Lib.hid hst
        have hbz := hb.size
        clear hb hst hsm
        go_upto_block 4 with fail
        go_cut [10] (fun s10 wc => ∃ b : Bool, s10 = .bool b ∧ (b = true ↔ x ∈ L) ∧ Below w.heap.size w wc ∧ StrR B wc (some ⟨ga, 0, none⟩) c' L)
        case first =>
          go_wp2_with fail
          go_loopw [10, 11] (fun s10 s11 wc => ∃ (j : Nat) (b : Bool), j ≤ L.length ∧ s10 = .bool b ∧ s11 = .int .i64 j ∧ (b = true ↔ x ∈ L.take j) ∧ Below w.heap.size w wc ∧ StrR B wc (some ⟨ga, 0, none⟩) c' L) (fun _ s _ => L.length - (intOf s).toNat)
          case atStart => exact ⟨0, false, by omega, rfl, rfl, by simp, HB.out, HST.out⟩
          case round =>
            clear HST HB hbz
            obtain ⟨j, b, hj, rfl, rfl, hbm, hb, hst⟩ := hrel
            have hbz := hb.size
            have HST := Lib.hid hst
            have HB := Lib.hid hb
            have HBM := Lib.hid hbm
            have h0 := (hb.cell (p := ⟨b', o + k * 2, none⟩) hbb).trans H0.out
            clear hst hb hbm
            by_cases hlt2 : j < L.length
            · have hTk : L.take (j + 1) = L.take j ++ [L.getD j ⟨#[]⟩] := by
                rw [List.take_add_one, List.getElem?_eq_getElem hlt2, List.getD_eq_getElem?_getD, List.getElem?_eq_getElem hlt2]
                rfl
              obtain ⟨b2', o2, e3, _, k0⟩ := HST.out.sl j hlt2
              injection e3 with e3
              injection e3 with e3 e4 _
              subst e3 e4
              dsimp only at k0
              rw [Nat.zero_add] at k0
              obtain ⟨x2, hx2⟩ : ∃ x2, L.getD j ⟨#[]⟩ = x2 := ⟨_, rfl⟩
              rw [hx2] at k0 hTk
              have HTK := Lib.hid hTk
              clear hx2 hTk
              cases b
              · have hjm : (j : Int) < L.length := by omega
                by_cases he : x2 = x
                · have HN := Lib.hid (show true = true ↔ x ∈ L.take (j + 1) by
                    rw [HTK.out, List.mem_append, List.mem_singleton]
                    exact ⟨fun _ => .inr he.symm, fun _ => rfl⟩)
                  have e5 := str_eq_true he
                  clear he
                  go_wp2_with fail
                  go_quiet (fail)
                  rename_i nq
                  go_wp2_with fail
                  go_roundw
                  case rel => exact ⟨j + 1, true, by omega, rfl, by go_num, by simpa using HN.out, HB.out.drewN nq, HST.out.below ((Below.refl _ _).drewN nq)⟩
                  case measure => simp [intOf]; omega
                · have HN := Lib.hid (show false = true ↔ x ∈ L.take (j + 1) by
                    rw [HTK.out, List.mem_append, List.mem_singleton]
                    exact ⟨(fun h => by cases h), fun h => h.elim (fun h => HBM.out.2 h) (fun h => absurd h.symm he)⟩)
                  have e5 := str_eq_false he
                  clear he
                  go_wp2_with fail
                  go_quiet (fail)
                  rename_i nq
                  go_wp2_with fail
                  go_roundw
                  case rel => exact ⟨j + 1, false, by omega, rfl, by go_num, by simpa using HN.out, HB.out.drewN nq, HST.out.below ((Below.refl _ _).drewN nq)⟩
                  case measure => simp [intOf]; omega
              · have HN := Lib.hid (show true = true ↔ x ∈ L.take (j + 1) by
                  rw [HTK.out, List.mem_append]
                  exact ⟨fun h => .inl (HBM.out.1 h), fun _ => rfl⟩)
                clear k0
                go_wp2_with fail
                go_quiet (fail)
                rename_i nq
                go_wp2_with fail
                go_roundw
                case rel => exact ⟨j + 1, true, by omega, rfl, by go_num, by simpa using HN.out, HB.out.drewN nq, HST.out.below ((Below.refl _ _).drewN nq)⟩
                case measure => simp [intOf]; omega
            · obtain rfl : j = L.length := by omega
              have HN := Lib.hid (show b = true ↔ x ∈ L by
                have := HBM.out
                rwa [List.take_length] at this)
              clear h0
              go_wp2_with fail
              go_meet
              exact ⟨b, rfl, HN.out, HB.out, HST.out⟩
        case rest =>
          clear HST HB hbz
          obtain ⟨kn, rfl, hkn, hb, hst⟩ := hcut
          have HKN := Lib.hid hkn
          have HB := Lib.hid hb
          have HST := Lib.hid hst
          have hbz := hb.size
          have h0 := (hb.cell (p := ⟨b', o + k * 2, none⟩) hbb).trans H0.out
          clear hb hst hkn
          have HPASS := Lib.hid (fun h => missS_pass (gs := G) (r := F.drop (k + 1)) (f := (x, y)) (out := L) h)
          have HPUT := Lib.hid (fun h h2 => missS_put (gs := G) (r := F.drop (k + 1)) (f := (x, y)) (out := L) h h2)
          cases sm
          · cases kn
            · have HN := Lib.hid (show missS G (F.drop (k + 1)) (putS x L) = RES by
                rw [← HMI.out, HPUT.out (fun h => by have := HSM.out.2 h; cases this) (fun h => by have := HKN.out.2 h; cases this)])
              have HPL := Lib.hid (putS_len (x := x) L)
              go_wp2_with (go_at_call 54; refine (specPut_any x HST.out (by omega)).mono ?_; rintro r w3 ⟨g3, c3, rfl, ho3, hb3⟩)
              go_roundw
              case rel => exact ⟨k + 1, g3, c3, putS x L, by omega, rfl, by go_num, own_base ho3 (by omega), by rw [HPL.out]; omega, HN.out, HB.out.trans (hb3.mono hbz)⟩
              case measure => simp [intOf]; omega
            · have HN := Lib.hid (show missS G (F.drop (k + 1)) L = RES by rw [← HMI.out, HPASS.out (.inr (HKN.out.1 rfl))])
              go_wp2_with fail
              go_roundw
              case rel => exact ⟨k + 1, ga, c', L, by omega, rfl, by go_num, HST.out, by omega, HN.out, HB.out⟩
              case measure => simp [intOf]; omega
          · have HN := Lib.hid (show missS G (F.drop (k + 1)) L = RES by rw [← HMI.out, HPASS.out (.inl (HSM.out.1 rfl))])
            go_wp2_with fail
            go_roundw
            case rel => exact ⟨k + 1, ga, c', L, by omega, rfl, by go_num, HST.out, by omega, HN.out, HB.out⟩
            case measure => simp [intOf]; omega
    · obtain rfl : k = n := by omega
      have hd : F.drop k = [] := by rw [← HF.out, List.drop_of_length_le (by rw [filS_len]; omega)]
      rw [hd] at HMI
      have HM2 := Lib.hid (show L = RES from HMI.out)
      clear hd
      go_wp2_with fail
      go_ret
      exact ⟨ga, c', by rw [← HM2.out]; rfl, by rw [← HM2.out]; exact HST.out, HB.out⟩
theorem missS_len {gs : List (ByteArray × ByteArray)} : ∀ (fs : List (ByteArray × ByteArray)) (out : List ByteArray), (missS gs fs out).length ≤ out.length + fs.length
  | [], out => by simp [missS]
  | f :: r, out => by
    rw [missS]
    have h := missS_len (gs := gs) r
    split
    · have := h (putS f.1 out)
      rw [putS_len] at this
      simp; omega
    · have := h out
      simp; omega
set_option maxHeartbeats 2000000 in
theorem specChanged_ok (A B : Option Addr) (n m c d : Nat) (s t : Nat → ByteArray) (w : World) (hn : n ≤ 1048576) (hm : m ≤ 1048576) (hsz : ∀ i, i < n * 2 → (s i).size ≤ 1048576) (htz : ∀ i, i < m * 2 → (t i).size ≤ 1048576)
    (hs : Sl w w.heap.size A (n * 2) (fun i => .string (s i))) (ht : Sl w w.heap.size B (m * 2) (fun i => .string (t i))) (hv : VF n s) (hv2 : VF m t) :
    Calls Try.prog 15 #[.slice A n c, .slice B m d] w fun e w' => ∃ A' c', e = .returned (.tuple #[.slice A' (missS (filS s n) (filS t m) (missS (filS t m) (filS s n) [])).length c', .bool true]) ∧ StrR w.heap.size w' A' c' (missS (filS s n) (filS t m) (missS (filS t m) (filS s n) [])) ∧ Below w.heap.size w w' := by
  have hn16 := hv.1
  have hm16 := hv2.1
  have HV := Lib.hid hv
  have HV2 := Lib.hid hv2
  have HS := Lib.hid hs
  have HT := Lib.hid ht
  have HV1 := Lib.hid (show ∀ (X : Value) (W : World), X = .slice A n c → W = w → Calls Try.prog 22 #[X] W fun e w' => VfOut (VF n s) e W w' from fun X W e eW => by rw [e, eW]; exact specValid_any A n c s w hn hsz hs)
  have HV3 := Lib.hid (show ∀ (X : Value) (W : World), X = .slice B m d → Below w.heap.size w W → Calls Try.prog 22 #[X] W fun e w' => VfOut (VF m t) e W w' from fun X W e hb => by rw [e]; exact specValid_any B m d t W hm htz ((ht.below hb).more hb.size))
  have HL1 := Lib.hid (missS_len (gs := filS t m) (filS s n) [])
  obtain ⟨M1, hM1⟩ : ∃ M, missS (filS t m) (filS s n) [] = M := ⟨_, rfl⟩
  rw [hM1] at HL1 ⊢
  have HM1 := Lib.hid hM1
  have hM1l : M1.length ≤ 16 := by
    have h := HL1.out
    rw [filS_len] at h
    simp at h
    omega
  clear hv hv2 hs ht hsz htz hM1
  go_enter Try.func15, Try.ntmps15
  go_upto_region 3 with (first
    | (go_at_call 22; refine (HV1.out _ _ (by rfl) (by rfl)).mono ?_; rintro r w1 ⟨b1, hb1', rfl, hb1⟩; obtain rfl : b1 = true := hb1'.2 HV.out; clear hb1')
    | (go_at_call 22; refine (HV3.out _ _ (by rfl) hb1).mono ?_; rintro r w2 ⟨b2, hb2', rfl, hb2⟩; obtain rfl : b2 = true := hb2'.2 HV2.out; clear hb2'))
  have HB2 := Lib.hid (hb1.trans (hb2.mono hb1.size))
  have hz2 := HB2.out.size
  have hal := (Below.refl w2.heap.size w2).alloc (Nat.le_refl _) (.cells #[] 9)
  have HB3 := Lib.hid (HB2.out.trans (hal.mono hz2))
  have HNE := Lib.hid (own_nilE w2 9 1 w.heap.size hz2)
  clear hb1 hb2 hal
  have hz3 := HB3.out.size
  go_wp2_with fail
  refine (specMissing_any (L0 := []) hn16 hm16 ((HS.out.below HB3.out).more hz3) ((HT.out.below HB3.out).more hz3) HNE.out hz3 (by simp)).mono ?_
  rw [HM1.out]
  rintro r w4 ⟨g4, c4, rfl, ho4, hb4⟩
  have HB4 := Lib.hid (HB3.out.trans (hb4.mono hz3))
  have HO4 := Lib.hid ho4
  have hz4 := HB4.out.size
  clear ho4 hb4
  go_wp2_with fail
  refine (specMissing_any (L0 := M1) hm16 hn16 ((HT.out.below HB4.out).more hz4) ((HS.out.below HB4.out).more hz4) HO4.out hz4 (by omega)).mono ?_
  rintro r w5 ⟨g5, c5, rfl, ho5, hb5⟩
  go_wp2_with fail
  go_ret2
  exact ⟨some ⟨g5, 0, none⟩, c5, rfl, ho5, HB4.out.trans (hb5.mono hz4)⟩
theorem specChanged_bad (A B : Option Addr) (n m c d : Nat) (s t : Nat → ByteArray) (w : World) (hn : n ≤ 1048576) (hm : m ≤ 1048576) (hsz : ∀ i, i < n * 2 → (s i).size ≤ 1048576) (htz : ∀ i, i < m * 2 → (t i).size ≤ 1048576)
    (hs : Sl w w.heap.size A (n * 2) (fun i => .string (s i))) (ht : Sl w w.heap.size B (m * 2) (fun i => .string (t i))) (hv : ¬ (VF n s ∧ VF m t)) :
    Calls Try.prog 15 #[.slice A n c, .slice B m d] w fun e w' => ∃ A' c', e = .returned (.tuple #[.slice A' 0 c', .bool false]) ∧ w'.ownsRow w.heap.size 9 1 (.slice A' 0 c') 0 [] ∧ Below w.heap.size w w' := by
  have HV1 := Lib.hid (show ∀ (X : Value) (W : World), X = .slice A n c → W = w → Calls Try.prog 22 #[X] W fun e w' => VfOut (VF n s) e W w' from fun X W e eW => by rw [e, eW]; exact specValid_any A n c s w hn hsz hs)
  have HV3 := Lib.hid (show ∀ (X : Value) (W : World), X = .slice B m d → Below w.heap.size w W → Calls Try.prog 22 #[X] W fun e w' => VfOut (VF m t) e W w' from fun X W e hb => by rw [e]; exact specValid_any B m d t W hm htz ((ht.below hb).more hb.size))
  clear hs ht hsz htz
  by_cases hv1 : VF n s
  · have hv2 : ¬ VF m t := fun h => hv ⟨hv1, h⟩
    have HX1 := Lib.hid hv1
    have HX2 := Lib.hid hv2
    clear hv hv1 hv2
    go_enter Try.func15, Try.ntmps15
    go_wp2_with (first
      | (go_at_call 22; refine (HV1.out _ _ (by rfl) (by rfl)).mono ?_; rintro r w1 ⟨b1, hb1', rfl, hb1⟩; obtain rfl : b1 = true := hb1'.2 HX1.out; clear hb1')
      | (go_at_call 22; refine (HV3.out _ _ (by rfl) hb1).mono ?_; rintro r w2 ⟨b2, hb2', rfl, hb2⟩; obtain rfl : b2 = false := by cases b2 with | false => rfl | true => exact absurd (hb2'.1 rfl) HX2.out))
    go_ret2
    have hB := hb1.trans (hb2.mono hb1.size)
    exact ⟨_, 0, rfl, own_nilE w2 9 1 w.heap.size hB.size, hB.alloc hB.size _⟩
  · go_enter Try.func15, Try.ntmps15
    go_wp2_with (go_at_call 22; refine (HV1.out _ _ (by rfl) (by rfl)).mono ?_; rintro r w1 ⟨b1, hb1', rfl, hb1⟩; obtain rfl : b1 = false := by cases b1 with | false => rfl | true => exact absurd (hb1'.1 rfl) hv1)
    go_ret2
    exact ⟨_, 0, rfl, own_nilE w1 9 1 w.heap.size hb1.size, hb1.alloc hb1.size _⟩
end Go.Proofs.Ythhdjmmbafpmpaa
