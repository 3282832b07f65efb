/-
  Trees: ReadTree, the program's side.
-/
import Derived.Test.YtiefcgmghkkbmaaGreatDoorTreRd
namespace Go.Proofs.YtiefcgmghkkbmaaGreatDoor
open Go Go.ChangeShapes Go.WideShapes Go.ChangeAt Go.RowKit lib
set_option linter.unusedVariables false
set_option linter.unusedSimpArgs false
set_option maxRecDepth 100000
theorem OpOut.bad' {n : Nat} {s : Nat → ByteArray} {p : ByteArray} {w w' : World} {e : Ending} (h : OpOut n s p w e w') (h0 : (askT n s p).1 ≠ 0) : e = .returned (.tuple #[.pointer none, .int .i64 0, .string ⟨#[]⟩, .int .i64 0, .int .i64 ((askT n s p).1 : Nat)]) ∧ Below w.heap.size w w' := by
  obtain ⟨hb, ⟨_, h⟩ | ⟨h, _⟩⟩ := h
  · exact ⟨h, hb⟩
  · exact absurd h h0
theorem OpOut.good' {n : Nat} {s : Nat → ByteArray} {p : ByteArray} {w w' : World} {e : Ending} (h : OpOut n s p w e w') (h0 : (askT n s p).1 = 0) : ∃ gp gr bl cp, e = .returned (.tuple #[.pointer (some ⟨gp, 0, none⟩), .int .i64 ((askT n s p).2.1 : Nat), .string (askT n s p).2.2, .int .i64 (lookU (fun i => byteAt (s i)) (askT n s p).2.1 (askT n s p).2.2 : Nat), .int .i64 0]) ∧ TreD w' gp gr n w.heap.size bl cp (fun i => byteAt (s i)) ∧ Below w.heap.size w w' := by
  obtain ⟨hb, ⟨h, _⟩ | ⟨_, gp, gr, bl, cp, h1, h2⟩⟩ := h
  · exact absurd h0 h
  · exact ⟨gp, gr, bl, cp, h1, h2, hb⟩
set_option maxHeartbeats 4000000 in
theorem implReadTree_any {w : World} {A : Option Addr} {n c : Nat} {s : Nat → ByteArray} {p : ByteArray} (hm : n ≤ 1048576) (hp : p.size ≤ 1048576) (hs : Sl w w.heap.size A n (fun i => .string (s i))) (hml : MaxL w) :
    Calls Tryz.prog 12 #[.slice A n c, .string p] w fun e w' => e = .returned (.tuple #[.string (readT n s p).1, .int .i64 ((readT n s p).2 : Nat)]) ∧ Below w.heap.size w w' := by
  have hop := openPath_any (c := c) hm hp hs hml
  have hle := askT_le n s p
  by_cases h0 : (askT n s p).1 = 0
  · rw [readT_ok h0]
    obtain ⟨hc, hdd, hnm⟩ := askT_zero h0
    obtain ⟨⟨h4, hn, _⟩, _⟩ := tCode_zero hc
    have HOP := Lib.hid (hop.mono (R' := fun e w' => _) (fun e w' h => h.good' h0))
    obtain ⟨u, hu⟩ : ∃ u : Nat → Nat → UInt8, (fun i => byteAt (s i)) = u := ⟨_, rfl⟩
    rw [hu] at hdd HOP ⊢
    obtain ⟨d, hd⟩ : ∃ d, (askT n s p).2.1 = d := ⟨_, rfl⟩
    obtain ⟨nm, hnm'⟩ : ∃ d, (askT n s p).2.2 = d := ⟨_, rfl⟩
    rw [hd] at hdd HOP ⊢
    rw [hnm'] at HOP ⊢
    have hee := lookU_ee hdd nm
    have hr0 := readU_none (u := u) (d := d) (nm := nm)
    have hr1 := readU_ok (u := u) (d := d) (nm := nm)
    have hr2 := readU_bad (u := u) (d := d) (nm := nm)
    obtain ⟨R, hR⟩ : ∃ R, readU u d nm = R := ⟨_, rfl⟩
    rw [hR] at hr0 hr1 hr2 ⊢
    obtain ⟨b, hb⟩ : ∃ b, lookU u d nm = b := ⟨_, rfl⟩
    rw [hb] at HOP hee hr0 hr1 hr2
    clear hop hle h0 hc hs hml hu hd hnm' hR hb hdd hnm
    by_cases hb0 : b = 0
    · have hRR := hr0 hb0
      subst hRR hb0
      clear hee hr1 hr2 hr0
      go_enter Tryz.func12, Tryz.ntmps12
      go_wp2_with (go_at_call 29; refine HOP.out.mono ?_; rintro e w2 ⟨gp, gr, bl, cp, rfl, ht, hb2⟩)
      go_ret2
      exact ⟨rfl, hb2⟩
    · have hE : EE n u d b := hee.resolve_left hb0
      have hbn := hE.lt
      have t0 : ((b : Int) == 0) = false := by simp; omega
      have hbi : (b : Int) < (n : Int) := by omega
      obtain ⟨y, hy⟩ : ∃ y, (u b 0).toNat = y := ⟨_, rfl⟩
      have hy2 : y < 256 := by rw [← hy]; exact UInt8.toNat_lt _
      have HY := Lib.hid hy
      by_cases h2 : u b 0 = 2
      · have hRR := hr1 hb0 h2
        subst hRR
        have hy4 : y = 2 := by rw [← hy, h2]; rfl
        subst hy4
        have hne4 : u b 0 ≠ 4 := by rw [h2]; decide
        have HFS := Lib.hid (hE.fil hne4).2
        clear hee hE h2 hne4 hr0 hr1 hr2 hy
        go_enter Tryz.func12, Tryz.ntmps12
        go_upto_region 4 with (go_at_call 29; refine HOP.out.mono ?_; rintro e w2 ⟨gp, gr, bl, cp, rfl, ht, hb2⟩)
        obtain ⟨cap, k1⟩ := ht.ptr
        have k2 := ht.blk hbn
        have k3 := (ht.row hbn).cell (i := 0) (by omega)
        rw [HY.out] at k3
        have HC := Lib.hid (contents_any ht hn hbn HFS.out)
        have HB2 := Lib.hid hb2
        clear ht hb2
        go_wp2_with (go_at_call 30; refine HC.out.mono ?_; rintro e w3 ⟨rfl, hb3⟩)
        go_ret2
        exact ⟨rfl, HB2.out.trans (hb3.mono HB2.out.size)⟩
      · have hRR := hr2 hb0 h2
        subst hRR
        have hy4 : y ≠ 2 := fun e => h2 ((u8_is 2 hy).2 e)
        have t4 : ((y : Int) != 2) = true := by simp; omega
        clear hee hE h2 hr0 hr1 hr2 hy
        go_enter Tryz.func12, Tryz.ntmps12
        go_upto_region 4 with (go_at_call 29; refine HOP.out.mono ?_; rintro e w2 ⟨gp, gr, bl, cp, rfl, ht, hb2⟩)
        obtain ⟨cap, k1⟩ := ht.ptr
        have k2 := ht.blk hbn
        have k3 := (ht.row hbn).cell (i := 0) (by omega)
        rw [HY.out] at k3
        clear ht
        go_wp2_with fail
        go_ret2
        exact ⟨rfl, hb2⟩
  · rw [readT_bad h0]
    have HOP := Lib.hid (hop.mono (R' := fun e w' => _) (fun e w' h => h.bad' h0))
    obtain ⟨k, hk⟩ : ∃ k, (askT n s p).1 = k := ⟨_, rfl⟩
    rw [hk] at HOP h0 hle ⊢
    have t1 : ((k : Int) != 0) = true := by simp; omega
    clear hop hs hml hk h0
    go_enter Tryz.func12, Tryz.ntmps12
    go_wp2_with (go_at_call 29; refine HOP.out.mono ?_; rintro e w2 ⟨rfl, hb2⟩)
    go_ret2
    exact ⟨rfl, hb2⟩
end Go.Proofs.YtiefcgmghkkbmaaGreatDoor
