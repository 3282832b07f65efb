/-
  Hexadecimal digits read, both sides.
-/
import Derived.Test.YtdofpkdemmngeaaRfP
import Derived.Test.YtdofpkdemmngeaaHexT
import Derived.Test.YtdofpkdemmngeaaRfxP
import Derived.Test.YtdofpkdemmngeaaShelf
namespace Go.Proofs.Ytdofpkdemmngeaa
open Go Go.ChangeShapes Go.WideShapes Go.ChangeAt Go.RowKit lib
set_option linter.unusedVariables false
set_option maxRecDepth 100000
def ixv : Option Nat → Int
  | some v => v
  | none => -1
theorem ixd_nat : ∀ n, n < 256 → Lib.indexByte [48, 49, 50, 51, 52, 53, 54, 55, 56, 57, 97, 98, 99, 100, 101, 102] (UInt8.ofNat n) = ixv (unD (UInt8.ofNat n)) := by decide
theorem ixd (x : UInt8) : Lib.indexByte [48, 49, 50, 51, 52, 53, 54, 55, 56, 57, 97, 98, 99, 100, 101, 102] x = ixv (unD x) := by
  have := ixd_nat x.toNat x.toNat_lt
  simpa using this
/-- the digit's value, or nought -/
def dg (x : UInt8) : Nat := (unD x).getD 0
def hvU (s : ByteArray) (j : Nat) : UInt8 := UInt8.ofNat (16 * dg (byteAt s (2 * j)) + dg (byteAt s (2 * j + 1)))
def okD (s : ByteArray) (n : Nat) : Prop := ∀ i, i < n → unD (byteAt s i) ≠ none
theorem unhex_all : ∀ (k : Nat) (l : List UInt8), l.length = 2 * k → (∀ i, i < 2 * k → unD (l.getD i 0) ≠ none) → unhex l = some ((List.range k).map fun j => UInt8.ofNat (16 * dg (l.getD (2 * j) 0) + dg (l.getD (2 * j + 1) 0)))
  | 0, [], _, _ => rfl
  | 0, _ :: _, h, _ => by simp at h
  | k + 1, [], h, _ => by simp at h
  | k + 1, [_], h, _ => by simp at h; omega
  | k + 1, a :: b :: r, h, hv => by
    have ih := unhex_all k r (by simp at h; omega) (fun i hi => by have := hv (i + 2) (by omega); simpa using this)
    have ha := hv 0 (by omega)
    have hb := hv 1 (by omega)
    simp at ha hb
    obtain ⟨x, hx⟩ := Option.ne_none_iff_exists'.1 ha
    obtain ⟨y, hy⟩ := Option.ne_none_iff_exists'.1 hb
    rw [unhex, hx, hy, ih, List.range_succ_eq_map, List.map_cons, List.map_map]
    dsimp only
    congr 1
    congr 1
    · simp [dg, hx, hy]
theorem unhex_digits : ∀ (l d : List UInt8), unhex l = some d → ∀ x ∈ l, unD x ≠ none
  | [], _, _ => by simp
  | [_], d, h => by cases h
  | a :: b :: r, d, h => by
    rw [unhex] at h
    cases ha : unD a with
    | none => rw [ha] at h; cases h
    | some x =>
      cases hb : unD b with
      | none => rw [ha, hb] at h; cases h
      | some y =>
        cases hr : unhex r with
        | none => rw [ha, hb, hr] at h; cases h
        | some t =>
          intro z hz
          rcases List.mem_cons.1 hz with rfl | hz
          · rw [ha]; simp
          rcases List.mem_cons.1 hz with rfl | hz
          · rw [hb]; simp
          exact unhex_digits r t hr z hz
theorem unhex_odd {l : List UInt8} (h : l.length % 2 = 1) : unhex l = none := by
  cases hu : unhex l with
  | none => rfl
  | some d => have := unhex_len l d hu; omega
theorem unhex_bad {s : ByteArray} {i : Nat} (hi : i < s.size) (h : unD (byteAt s i) = none) : unhex s.data.toList = none := by
  cases hu : unhex s.data.toList with
  | none => rfl
  | some d =>
    refine absurd h (unhex_digits _ d hu _ ?_)
    unfold byteAt
    have hl : i < s.data.toList.length := by rw [← Lib.size_eq]; exact hi
    rw [List.getD_eq_getElem?_getD, List.getElem?_eq_getElem hl]
    exact List.getElem_mem hl
theorem unhex_good {s : ByteArray} {k : Nat} (hk : s.size = 2 * k) (h : okD s (2 * k)) : unhex s.data.toList = some ((List.range k).map (hvU s)) :=
  unhex_all k _ (by rw [← Lib.size_eq]; exact hk) h
def UnhOut (s : ByteArray) (r : Ending) (w w' : World) : Prop :=
  ((∃ d, unhex s.data.toList = some d ∧ r = .returned (.tuple #[.string ⟨d.toArray⟩, .bool true])) ∨ (unhex s.data.toList = none ∧ r = .returned (.tuple #[.string ⟨#[]⟩, .bool false]))) ∧ Below w.heap.size w w'
theorem UnhOut.bad {s : ByteArray} {w w' : World} (h : unhex s.data.toList = none) (hb : Below w.heap.size w w') : UnhOut s (.returned (.tuple #[.string ⟨#[]⟩, .bool false])) w w' := ⟨.inr ⟨h, rfl⟩, hb⟩
theorem UnhOut.good {s : ByteArray} {k : Nat} {w w' : World} (hk : s.size = 2 * k) (h : okD s (2 * k)) (hb : Below w.heap.size w w') : UnhOut s (.returned (.tuple #[.string (bstr k (hvU s)), .bool true])) w w' := ⟨.inl ⟨_, unhex_good hk h, rfl⟩, hb⟩
theorem newsB1 (w : World) (e : Nat) (u : Value) : ∀ (j : Nat) (q : Value), [u][j]? = some q → (w.alloc (.cells #[u] e)).cell? ((⟨w.heap.size, 0, none⟩ : Addr).add j) = some q := by
  intro j q h
  match j with
  | 0 =>
    have : q = u := by simpa using h.symm
    subst this
    exact World.cell?_alloc_new w #[q] e 0
  | j + 1 => simp at h
set_option maxHeartbeats 1000000 in
theorem implUnhex_any (s : ByteArray) (hs : s.size ≤ 1048576) (w : World) : Calls Try.prog 32 #[.string s] w fun r w' => UnhOut s r w w' := by
  by_cases hodd : s.size % 2 = 1
  · have hu : unhex s.data.toList = none := unhex_odd (by rw [← Lib.size_eq]; exact hodd)
    have e1 : (s.size : Int) % 2 = 1 := by omega
    go_enter Try.func32, Try.ntmps32
    go_wp2_with fail
    go_ret2
    exact UnhOut.bad hu (Below.refl _ _)
  · obtain ⟨K, hK⟩ : ∃ K, s.size = 2 * K := ⟨s.size / 2, by omega⟩
    have e1 : ((s.size : Int) % 2 = 1) = False := by simp; omega
    have e2 : (s.size : Int) / 2 = (K : Int) := by omega
    obtain ⟨i0, hi0, hi1, hi2, hi3⟩ := info_parts (show (Try.prog.info? 5).map (fun i => (i.zero, i.size, i.bytes)) = some (some (.int .u8 0), 1, 1) by kernel_rfl)
    obtain ⟨W1, hmk, hown, hgr⟩ := run_make_own (P := Try.prog) (w := w) w.heap.size 22 5 i0 _ 1 Try.underlying22 hi0 hi1 hi2 .i64 .i64 K (by rw [hi3]; omega) (by simp only [maxLen]; omega) (Nat.le_refl _)
    have HO := Lib.hid hown
    have HB := Lib.hid (below_grown hgr (fun k e => by cases e) (Nat.le_refl w.heap.size))
    clear hown hgr
    go_enter Try.func32, Try.ntmps32
    go_wp2_with fail
    go_loopw [4, 5] (fun s4 s5 wr => ∃ (k : Nat) (A : Option Addr) (c' : Nat), k ≤ K ∧ s4 = .slice A k c' ∧ s5 = .int .i64 (2 * k : Nat) ∧ okD s (2 * k) ∧ wr.ownsRow w.heap.size 5 1 (.slice A k c') k ((List.range k).map fun (j : Nat) => Value.int .u8 ((hvU s j).toNat : Int)) ∧ Below w.heap.size w wr) (fun _ i _ => 2 * K - (intOf i).toNat)
    case atStart => exact ⟨0, _, _, by omega, rfl, rfl, fun i hi => by omega, HO.out, HB.out⟩
    case round =>
      obtain ⟨k, A, c', hk, rfl, rfl, hd, ho, hb⟩ := hrel
      have HOR := Lib.hid ho
      have HBR := Lib.hid hb
      have HD := Lib.hid hd
      have HK := Lib.hid hK
      have hKz : K ≤ 524288 := by omega
      have hbz := hb.size
      clear hmk e1 e2
      clear ho hb hd
      by_cases hlt : k < K
      · have hx0 : 2 * k < s.size := by omega
        have hx1 : 2 * k + 1 < s.size := by omega
        have g0 := byteAt_get s (2 * k) hx0
        have g1 := byteAt_get s (2 * k + 1) hx1
        clear hK
        have hib : ∀ (x : UInt8) (W' : World), Calls Try.prog 47 #[.string ⟨#[48, 49, 50, 51, 52, 53, 54, 55, 56, 57, 97, 98, 99, 100, 101, 102]⟩, .int .u8 (x.toNat : Int)] W' fun e w' => e = .returned (.int .i64 (ixv (unD x))) ∧ w' = W' := fun x W' => by
          have := Try.strings_IndexByte ⟨#[48, 49, 50, 51, 52, 53, 54, 55, 56, 57, 97, 98, 99, 100, 101, 102]⟩ (x.toNat : Int) W'
          rw [show ((x.toNat : Int).toNat.toUInt8) = x by simp] at this
          rw [show Lib.indexByte (⟨#[48, 49, 50, 51, 52, 53, 54, 55, 56, 57, 97, 98, 99, 100, 101, 102]⟩ : ByteArray).data.toList x = ixv (unD x) from ixd x] at this
          exact this
        have e3 : IntKind.i64.wrap ((2 * k : Nat) + 1 : Int) = ((2 * k + 1 : Nat) : Int) := by rw [IntKind.wrap_i64]; omega
        have e4 : (((2 * k + 1 : Nat) : Int) < s.size) := by omega
        cases ha : unD (byteAt s (2 * k)) with
        | none =>
          have hu := unhex_bad hx0 ha
          have f0 : ixv (unD (byteAt s (2 * k))) = -1 := by rw [ha]; rfl
          clear ha
          go_wp2_with (go_at_call 47; refine (hib _ _).mono ?_; rintro e w' ⟨rfl, rfl⟩)
          go_ret2
          exact UnhOut.bad hu HBR.out
        | some a =>
          have f0 : ixv (unD (byteAt s (2 * k))) = (a : Int) := by rw [ha]; rfl
          have ha16 := unD_lt ha
          have d0 : dg (byteAt s (2 * k)) = a := by unfold dg; rw [ha]; rfl
          have HA := Lib.hid ha
          clear ha
          cases hc : unD (byteAt s (2 * k + 1)) with
          | none =>
            have hu := unhex_bad hx1 hc
            have f1 : ixv (unD (byteAt s (2 * k + 1))) = -1 := by rw [hc]; rfl
            have e5 : ((a : Int) < 0) = False := by simp only [eq_iff_iff, iff_false]; omega
            clear hc
            go_wp2_with (go_at_call 47; refine (hib _ _).mono ?_; rintro e w' ⟨rfl, rfl⟩)
            go_ret2
            exact UnhOut.bad hu HBR.out
          | some b =>
            have f1 : ixv (unD (byteAt s (2 * k + 1))) = (b : Int) := by rw [hc]; rfl
            have hb16 := unD_lt hc
            have d1 : dg (byteAt s (2 * k + 1)) = b := by unfold dg; rw [hc]; rfl
            have HC := Lib.hid hc
            clear hc
            obtain ⟨y, hy⟩ : ∃ y, 16 * a + b = y := ⟨_, rfl⟩
            have hv : (hvU s k).toNat = y := by unfold hvU; rw [d0, d1, hy, UInt8.toNat_ofNat']; omega
            have HV := Lib.hid hv
            have e5 : ((a : Int) < 0) = False := by simp only [eq_iff_iff, iff_false]; omega
            have e6 : ((b : Int) < 0) = False := by simp only [eq_iff_iff, iff_false]; omega
            have e7 : IntKind.i64.wrap (16 * (a : Int)) = 16 * (a : Int) := by rw [IntKind.wrap_i64]; omega
            have e8 : 16 * (a : Int) + b = (y : Int) := by omega
            have e9 : IntKind.i64.wrap (y : Int) = (y : Int) := by rw [IntKind.wrap_i64]; omega
            have e10 : IntKind.u8.wrap (y : Int) = (y : Int) := by rw [IntKind.wrap_u8]; omega
            have e11 : IntKind.i64.wrap (2 * (k : Int) + 2) = ((2 * (k + 1) : Nat) : Int) := by rw [IntKind.wrap_i64]; omega
            clear hv d0 d1
            have HY := Lib.hid hy
            clear hy
            go_wp2_with (first | (go_at_call 47; refine (hib _ _).mono ?_; rintro e w' ⟨rfl, rfl⟩) | (at_builtin; go_loud (refine wpList_append_lies _ rfl (.tmp 37) (.tmp 43) _ rfl w.heap.size 5 i0 _ 1 1 Try.underlying22 hi0 hi1 hi2 hi3 rfl (by omega) (.slice A k c') k _ rfl (HOR.out.alloc _) ⟨_, 0, none⟩ 1 1 [.int .u8 (y : Int)] rfl rfl (newsB1 _ _ _) (by simp [Value.oneCell']) (by omega) (by simp only [maxLen]; omega) (by omega) (by rw [World.size_alloc]; omega) _ rfl ?_); intro gg cap w3 ho3 hgrow hat hlt3))
            go_roundw
            case rel => exact ⟨k + 1, some ⟨gg, 0, none⟩, cap, by omega, rfl, by go_num, fun i hi => by
                rcases (show i < 2 * k ∨ i = 2 * k ∨ i = 2 * k + 1 by omega) with h | h | h
                · exact HD.out i h
                · rw [h, HA.out]; simp
                · rw [h, HC.out]; simp, by rw [List.range_succ]; simpa [HV.out] using ho3, (HBR.out.alloc hbz _).trans (below_grown hgrow (fun j hj => by have := own_lt HOR.out j hj; omega) (by simp; omega))⟩
            case measure => simp [intOf]; omega
      · obtain rfl : k = K := by omega
        have hcv : (convert 22 9 (.slice A k c')).run Try.prog wr = .ok (.string (bstr k (hvU s))) wr :=
          run_bstr (P := Try.prog) (w := wr) (B := wr.heap.size) 22 9 5 Try.underlying22 Try.underlying5 Try.underlying9 (u := hvU s) (own_slR HOR.out) (fun hA => by
            rcases Nat.eq_zero_or_pos k with h0 | h0
            · exact h0
            · obtain ⟨b, o, hA2, _⟩ := own_slR HOR.out 0 h0
              rw [hA] at hA2
              cases hA2)
        go_wp2_with fail
        go_ret2
        exact UnhOut.good hK HD.out HBR.out
end Go.Proofs.Ytdofpkdemmngeaa
