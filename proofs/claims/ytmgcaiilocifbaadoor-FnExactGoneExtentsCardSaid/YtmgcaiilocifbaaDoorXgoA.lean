/-
  GoneExtents: the reference's side, joined.
-/
import Derived.Test.YtmgcaiilocifbaaDoorXgoS
import Derived.Test.YtmgcaiilocifbaaDoorXuH
import Derived.Deep.DeepCutAuto
namespace Go.Proofs.YtmgcaiilocifbaaDoor
open Go Go.ChangeShapes Go.WideShapes Go.ChangeAt Go.RowKit lib
set_option linter.unusedVariables false
set_option linter.unusedSimpArgs false
set_option maxRecDepth 100000
theorem goneAs_gone {z : Nat} {U : Nat → UInt8} {E : Nat} : picks (goneAs z U ⟨#[]⟩) E = picks (isGone z U) E := picks_congr fun k _ => ⟨fun q => q.1, fun q => ⟨q, .inl rfl⟩⟩
set_option maxHeartbeats 4000000 in
theorem specGoneTop_ok {w : World} {n c : Nat} {A : Option Addr} {s : Nat → ByteArray} (hs : Sl w w.heap.size A n (fun i => .string (s i))) (hsz : ∀ i, i < n → (s i).size ≤ 9223372036854775807) (hn : n ≤ c) (hn2 : n ≤ 9223372036854775807) (ho : opensX n s) :
    Calls Tryd.prog 27 #[.slice A n c] w fun r w' => ∃ A2 c2, r = .returned (.tuple #[.slice A2 (goneNms n s).length c2, .int .i64 0]) ∧ StrR w.heap.size w' A2 c2 (goneNms n s) ∧ Below w.heap.size w w' := by
  have HO := Lib.hid (specOpenX (c := c) hs hsz)
  obtain ⟨f1, f2, f3, f4, f5, f6, f7, f8, f9⟩ := shapeX ho
  unfold goneNms goneOf17
  obtain ⟨z, hz⟩ : ∃ z, (s 0).size = z := ⟨_, rfl⟩
  rw [hz] at f2 f3 f6 f8 f9 ⊢
  obtain ⟨l, hl⟩ : ∃ l, l = picks (isGone z (joinU z s)) (entsX n) := ⟨_, rfl⟩
  rw [← hl]
  have hlen : l.length ≤ 32 := by rw [hl]; exact Nat.le_trans (picks_len _ _) f7
  have hmem : ∀ j, j < l.length → l.getD j 0 < entsX n ∧ (xen z (joinU z s) (l.getD j 0)).st = 229 := fun j hj => by
    have := getD_mem hj
    rw [hl] at this
    have h2 := mem_picks.1 (by rwa [← hl] at this ⊢)
    exact ⟨h2.1, h2.2⟩
  have HME := Lib.hid hmem
  have HZ := Lib.hid hz
  have HS := Lib.hid hs
  have HF8 := Lib.hid f8
  have HF9 := Lib.hid f9
  have HOP := Lib.hid ho
  have HGO := Lib.hid (fun (W : World) (q : Nat) (hW : Below w.heap.size w W) (hr : Rw W q 44 #[.int .i64 n, .int .i64 z, .int .i64 (entsX n), .int .i64 (dataX n z)]) => (show Calls Tryd.prog 52 #[.slice A n c, .pointer (some ⟨q, 0, none⟩), .string ⟨#[]⟩] W fun r w' => ∃ A2 c2, r = .returned (.slice A2 l.length c2) ∧ NatR W.heap.size w' A2 c2 l ∧ Below W.heap.size W w' by rw [hl, ← goneAs_gone]; exact specGoneX_any ⟨#[]⟩ ((hs.below hW).more hW.size) f9 hr f2 f3 f4 f7 f8))
  clear ho hs hsz hz hl f1 f8 f9 hmem
  go_enter Tryd.func27, Tryd.ntmps27
  go_upto_region 4 with (go_at_call 29; refine HO.out.mono ?_; rintro r w1 ⟨h1, _⟩; obtain ⟨rfl, hb1⟩ := h1 HOP.out; rw [HZ.out]; unfold layX)
  have hR2 := Rw.new w1 44 #[.int .i64 n, .int .i64 z, .int .i64 (entsX n), .int .i64 (dataX n z)]
  have hB2 := hb1.alloc hb1.size (.cells #[.int .i64 n, .int .i64 z, .int .i64 (entsX n), .int .i64 (dataX n z)] 44)
  obtain ⟨q, hq⟩ : ∃ q, w1.heap.size = q := ⟨_, rfl⟩
  generalize w1.alloc (.cells #[.int .i64 n, .int .i64 z, .int .i64 (entsX n), .int .i64 (dataX n z)] 44) = W2 at *
  rw [hq] at hR2 ⊢
  clear hq hb1
  have hal := (Below.refl W2.heap.size W2).alloc (Nat.le_refl _) (.cells #[] 9)
  have hnil := own_base (own_nilE W2 9 1 W2.heap.size (Nat.le_refl _)) hB2.size
  have hR3 := hR2.below hal hR2.lt
  have hB3 := hB2.trans (hal.mono hB2.size)
  go_upto_region 5 with fail
  generalize hA2 : W2.heap.size = a2 at *
  generalize W2.alloc (.cells #[] 9) = W3 at *
  clear hal hR2 hB2
  go_upto_region 6 with (go_at_call 52; refine (HGO.out _ q hB3 hR3).mono ?_; rintro r w4 ⟨A2, c2, rfl, hna, hb4⟩)
  have hB4 := hB3.trans (hb4.mono hB3.size)
  have hR4 := hR3.below hb4 hR3.lt
  have hql := hR4.lt
  have hnil4 := own_below hnil hb4
  have HR4 := Lib.hid hR4
  have HB4 := Lib.hid hB4
  have HNS := Lib.hid hna.sl
  have HNI := Lib.hid hnil4
  have hz4 := hB4.size
  clear hR3 hB3 hnil hna hb4 hR4 hB4 hnil4 HGO
  go_wp2_with fail
  go_loopw [6, 8, 9, 10] (fun s6 s8 s9 s10 wr => ∃ (i c1 : Nat) (A1 : Option Addr), i ≤ l.length ∧ s8 = .int .i64 i ∧ s6 = .slice A1 (nmsX z (joinU z s) (l.take i)).length c1 ∧ StrR w.heap.size wr A1 c1 (nmsX z (joinU z s) (l.take i)) ∧ Below w4.heap.size w4 wr) (fun _ i _ _ _ => l.length - (intOf i).toNat)
  case atStart => exact ⟨0, 0, some ⟨a2, 0, none⟩, Nat.zero_le _, rfl, rfl, HNI.out, Below.refl _ _⟩
  case round =>
    obtain ⟨i, c1, A1, hi, rfl, rfl, hsr, hb⟩ := hrel
    have hwr := hb.size
    have hlN := nmsX_len z (joinU z s) (l.take i)
    have hlN2 : (nmsX z (joinU z s) (l.take i)).length ≤ 32 := by rw [List.length_take] at hlN; omega
    by_cases hlt : i < l.length
    · obtain ⟨hkE, hst⟩ := HME.out i hlt
      have hfit := HF8.out _ hkE
      obtain ⟨b2, o2, rfl, hb2l, hcj⟩ := (HNS.out.below hb) i hlt
      dsimp only at hcj
      have htk := take_more hlt
      obtain ⟨k, hk⟩ : ∃ k, l.getD i 0 = k := ⟨_, rfl⟩
      rw [hk] at hcj htk hkE hfit hst
      have hSr : Sl wr wr.heap.size A n (fun i => .string (s i)) := ((HS.out.below (HB4.out)).below (hb.mono hz4)).more (by omega)
      have hgd : xGood z (xby z (joinU z s) k) := xen_used (by rw [hst]; decide)
      have HEG := Lib.hid ((specEntryX_any (c := c) hSr HF9.out (HR4.out.below hb hql) f2 f3 f4 hfit).mono fun r w' q => xEnt_good (v := xby z (joinU z s) k) q hgd)
      obtain ⟨e, he⟩ : ∃ e, e = xen z (joinU z s) k := ⟨_, rfl⟩
      have hgx : xent z (xby z (joinU z s) k) = e := he.symm
      rw [hgx] at HEG
      unfold XE.val at HEG
      have hsn := nmsX_snoc z (joinU z s) (l.take i) k
      rw [← htk, ← he] at hsn
      have HSN := Lib.hid hsn
      have HSR := Lib.hid hsr
      generalize nmsX z (joinU z s) (l.take i) = L0 at *
      clear hsn hsr htk hgx he hgd hst hk hSr hlN
      go_upto_region 10 with (go_at_call 36; refine HEG.out.mono ?_; rintro r w5 ⟨A5, c5, rfl, hi5, hb5⟩)
      have hB6 := hb5.alloc hb5.size (.cells #[.int .i64 e.st, .string e.nm, .int .i64 e.no, .int .i64 e.tl, .slice A5 e.bl.length c5] 56)
      have hE6 := Rw.new w5 56 #[.int .i64 e.st, .string e.nm, .int .i64 e.no, .int .i64 e.tl, .slice A5 e.bl.length c5]
      generalize w5.alloc (.cells #[.int .i64 e.st, .string e.nm, .int .i64 e.no, .int .i64 e.tl, .slice A5 e.bl.length c5] 56) = W6 at *
      have y1 := hE6.cell 1
      have hsr6 := HSR.out.below hB6
      have hb6 := hb.trans (hB6.mono hwr)
      have HNM := Lib.hid (specNameX_any e.nm hsr6 (by have := hb6.size; omega) (by omega))
      have hz6 := hb6.size
      clear hB6 hE6 hsr6 hi5 hb5
      go_wp2_with (go_at_call 53; refine HNM.out.mono ?_; rintro r w7 ⟨A7, c7, rfl, hsr7, hb7⟩)
      go_roundw
      case rel => exact ⟨i + 1, c7, A7, by omega, by go_num, by rw [HSN.out], by rw [HSN.out]; exact hsr7, hb6.trans (hb7.mono hz6)⟩
      case measure => simp [intOf]; omega
    · obtain rfl : i = l.length := by omega
      rw [List.take_length] at hsr ⊢
      go_wp2_with fail
      go_ret2
      exact ⟨_, _, rfl, hsr, HB4.out.trans (hb.mono hz4)⟩
theorem specGoneTop_bad {w : World} {n c : Nat} {A : Option Addr} {s : Nat → ByteArray} (hs : Sl w w.heap.size A n (fun i => .string (s i))) (hsz : ∀ i, i < n → (s i).size ≤ 9223372036854775807) (hn : n ≤ c) (hn2 : n ≤ 9223372036854775807) (ho : ¬ opensX n s) :
    Calls Tryd.prog 27 #[.slice A n c] w fun r w' => r = .returned (.tuple #[.slice none 0 0, .int .i64 7]) ∧ Below w.heap.size w w' := by
  have HO := Lib.hid (specOpenX (c := c) hs hsz)
  have HOP := Lib.hid ho
  clear ho hs hsz
  go_enter Tryd.func27, Tryd.ntmps27
  go_wp2_with (go_at_call 29; refine HO.out.mono ?_; rintro r w1 ⟨_, h1⟩; obtain ⟨rfl, hb1⟩ := h1 HOP.out; unfold layX)
  go_ret2
  exact ⟨rfl, hb1.alloc hb1.size _⟩
end Go.Proofs.YtmgcaiilocifbaaDoor
