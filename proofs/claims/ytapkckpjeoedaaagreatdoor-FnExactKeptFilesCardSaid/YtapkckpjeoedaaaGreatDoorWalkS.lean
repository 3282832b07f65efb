/-
  Disks of chains: the walk along a chain: the reference's side.
-/
import Derived.Test.YtapkckpjeoedaaaGreatDoorWalkI
import Derived.Deep.LoopGhost
namespace Go.Proofs.YtapkckpjeoedaaaGreatDoor
open Go Go.ChangeShapes Go.WideShapes Go.ChangeAt Go.RowKit lib
set_option linter.unusedVariables false
set_option maxRecDepth 100000
/-- the result is stored: what stands -/
theorem walkS_done {w X : World} {T c : Nat} {A : Option Addr} {l : List Nat} {b0 b1 b2 : Value} (hT : 2 ≠ T) (h8 : Rw X w.heap.size T #[b0, b1, b2]) (hi : IntsR (w.heap.size + 1) X A c l) (hb : Below w.heap.size w X) (v0 v1 v2 : Value) :
    IntsR w.heap.size (((X.setCell ⟨w.heap.size, 0, none⟩ v0).setCell ⟨w.heap.size, 1, none⟩ v1).setCell ⟨w.heap.size, 2, none⟩ v2) A c l ∧ Below w.heap.size w (((X.setCell ⟨w.heap.size, 0, none⟩ v0).setCell ⟨w.heap.size, 1, none⟩ v1).setCell ⟨w.heap.size, 2, none⟩ v2) := by
  have hq : ∀ j, (⟨w.heap.size, j, none⟩ : Addr).block < w.heap.size + 1 := fun j => by show w.heap.size < _; omega
  exact ⟨(((hi.far (hq 0) v0).far (hq 1) v1).far (hq 2) v2).base (by omega), ((hb.setCell (Nat.le_refl _) v0).setCell (Nat.le_refl _) v1).setCell (Nat.le_refl _) v2⟩
/-- a block is taken: what stands -/
theorem walkS_step {w w2 w3 X : World} {T c2 a : Nat} {A' : Addr} {l : List Nat} {v : Value} {xs : List Value} {b0 b1 b2 s0 s1 s2 : Value} {m : Nat} (hT : 2 ≠ T) (hv : w2.ownsRow (w.heap.size + 1) 2 1 v m xs) (h8 : Rw w2 w.heap.size T #[b0, b1, b2]) (h9 : Rw w2 (w.heap.size + 1 + 1) T #[s0, s1, s2]) (hi : IntsR (w.heap.size + 1) w3 (some A') c2 (l ++ [a])) (hg : w2.grownBy w3 v.ownBlock) (hb : Below w.heap.size w w2) (u : Value)
    (hX : X = w3.setCell ⟨w.heap.size + 1 + 1, 0, none⟩ u) :
    Rw X w.heap.size T #[b0, b1, b2] ∧ Rw X (w.heap.size + 1 + 1) T #[u, s1, s2] ∧ IntsR (w.heap.size + 1) X (some A') c2 (l ++ [a]) ∧ Below w.heap.size w X := by
  have r8 := rw_grown h8 hg (own_ne hv h8 hT)
  have r9 := rw_grown h9 hg (own_ne hv h9 hT)
  subst hX
  exact ⟨r8.far (show w.heap.size ≠ w.heap.size + 1 + 1 by omega) u, r9.set 0 u, own_farR hi r9 hT 0 u, (hb.grown hg hb.size (fun j hj => by have := own_lt hv j hj; omega)).setCell (show w.heap.size ≤ w.heap.size + 1 + 1 by omega) u⟩
set_option maxHeartbeats 4000000 in
theorem specWalk_any {w : World} {p g n z e d t N c o co : Nat} {u : Nat → UInt8} (first : Nat) (own : Nat → Int) (hfi : first ≤ 255) (h : ChW w p g n z e d t N c u) (hn : n ≤ 128) (hNz : z + n ≤ N) (hN : N ≤ 4096)
    (hO : ORow w 2 o n own) (hncap : n ≤ co) :
    Calls Tryz.prog 102 #[.pointer (some ⟨p, 0, none⟩), .int .i64 first, .slice (some ⟨o, 0, none⟩) n co] w fun r w' => ∃ A c, r = .returned (walkV A c (walkOf t n (lkN z u) own first)) ∧ IntsR w.heap.size w' A c (walkOf t n (lkN z u) own first).1 ∧ Below w.heap.size w w' := by
  have hol := hO.lt
  have hTT : 2 ≠ 103 := by decide
  have hini : Rw (((w.alloc (.cells #[.slice none 0 0, .int .i64 0, .int .i64 0] 103)).alloc (.cells #[] 2)).alloc (.cells #[.slice (some ⟨w.heap.size + 1, 0, none⟩) 0 0, .int .i64 0, .int .i64 0] 103)) w.heap.size 103 #[.slice none 0 0, .int .i64 0, .int .i64 0] ∧
      Rw (((w.alloc (.cells #[.slice none 0 0, .int .i64 0, .int .i64 0] 103)).alloc (.cells #[] 2)).alloc (.cells #[.slice (some ⟨w.heap.size + 1, 0, none⟩) 0 0, .int .i64 0, .int .i64 0] 103)) (w.heap.size + 1 + 1) 103 #[.slice (some ⟨w.heap.size + 1, 0, none⟩) 0 0, .int .i64 0, .int .i64 0] ∧
      IntsR (w.heap.size + 1) (((w.alloc (.cells #[.slice none 0 0, .int .i64 0, .int .i64 0] 103)).alloc (.cells #[] 2)).alloc (.cells #[.slice (some ⟨w.heap.size + 1, 0, none⟩) 0 0, .int .i64 0, .int .i64 0] 103)) (some ⟨w.heap.size + 1, 0, none⟩) 0 [] ∧
      Below w.heap.size w (((w.alloc (.cells #[.slice none 0 0, .int .i64 0, .int .i64 0] 103)).alloc (.cells #[] 2)).alloc (.cells #[.slice (some ⟨w.heap.size + 1, 0, none⟩) 0 0, .int .i64 0, .int .i64 0] 103)) := by
    refine ⟨((Rw.new w _ _).alloc _).alloc _, ?_, ?_, (((Below.refl _ _).alloc (Nat.le_refl _) _).alloc (by simp) _).alloc (by simp; omega) _⟩
    · have := Rw.new ((w.alloc (.cells #[.slice none 0 0, .int .i64 0, .int .i64 0] 103)).alloc (.cells #[] 2)) 103 #[.slice (some ⟨w.heap.size + 1, 0, none⟩) 0 0, .int .i64 0, .int .i64 0]
      rw [World.size_alloc, World.size_alloc] at this
      exact this
    · have := own_nil0 (w.alloc (.cells #[.slice none 0 0, .int .i64 0, .int .i64 0] 103)) 2
      rw [World.size_alloc] at this
      exact this.alloc _
  obtain ⟨R, hR⟩ : ∃ R, walkOf t n (lkN z u) own first = R := ⟨_, rfl⟩
  rw [hR]
  have HR := Lib.hid hR
  have HINI := Lib.hid hini
  have HOO := Lib.hid hO
  have hpg := h.plt
  have hgg := h.row.lt
  have HH := Lib.hid h
  clear hini hR h hO
  go_enter Tryz.func102, Tryz.ntmps102
  go_wp2_with fail
  go_loopg [9, 8] (n + 1) (fun g' s10 s11 wr => ∃ (l : List Nat) (last a : Nat) (A : Option Addr) (c' : Nat), n + 1 - l.length ≤ g' ∧ s10 = .int .i64 last ∧ s11 = .int .i64 a ∧ a ≤ 255 ∧ ChL t n l ∧
      Rw wr w.heap.size 103 #[.slice none 0 0, .int .i64 0, .int .i64 0] ∧ Rw wr (w.heap.size + 1 + 1) 103 #[.slice A l.length c', .int .i64 0, .int .i64 0] ∧ IntsR (w.heap.size + 1) wr A c' l ∧
      Below w.heap.size w wr ∧ ((a = 0 ∧ last = 0 ∧ R = (l, 0, 0)) ∨ (a ≠ 0 ∧ walkGo t n (lkN z u) own (n - l.length + 1) l last a = R)))
  case atStart =>
    refine ⟨[], 0, first, _, 0, by simp, rfl, rfl, hfi, ChL.nil t n, HINI.out.1, HINI.out.2.1, HINI.out.2.2.1, HINI.out.2.2.2, ?_⟩
    by_cases hf : first = 0
    · left
      exact ⟨hf, rfl, by rw [← HR.out]; unfold walkOf; rw [if_pos hf]⟩
    · right
      exact ⟨hf, by rw [← HR.out]; unfold walkOf; rw [if_neg hf]; rfl⟩
  case round =>
    obtain ⟨l, last, a, A, c', hg', rfl, rfl, ha, hl, r8, r9, ho, hb, hst⟩ := hrel
    have hlen := hl.len
    have hl128 : l.length ≤ 128 := by omega
    have hwz : w.heap.size + 1 ≤ wr.heap.size := by have := r8.lt; omega
    have HST := Lib.hid hst
    have HO := Lib.hid ho
    have HL := Lib.hid hl
    have HB := Lib.hid hb
    have R8 := Lib.hid r8
    have R9 := Lib.hid r9
    have hW := HH.out.below hb
    have hOW := HOO.out.below hb hol
    have HM := Lib.hid (hasZ_mem l a)
    have HS := Lib.hid ho.sl
    clear hst ho hl hb
    have q0 := r9.cell 0
    have q1 := r9.cell 1
    have q2 := r9.cell 2
    have k0 := r8.cell 0
    have k1 := r8.cell 1
    have k2 := r8.cell 2
    have f0 := r8.frozen 0
    have f1 := r8.frozen 1
    have f2 := r8.frozen 2
    have g0 := r9.frozen 0
    have g1 := r9.frozen 1
    have g2 := r9.frozen 2
    clear r8 r9
    have hne89 : w.heap.size ≠ w.heap.size + 1 + 1 := by omega
    have hle9 : w.heap.size ≤ w.heap.size + 1 + 1 := by omega
    by_cases ha0 : a = 0
    · subst ha0
      obtain ⟨hl0, hRR⟩ : last = 0 ∧ R = (l, 0, 0) := by
        rcases HST.out with ⟨_, h2, h3⟩ | ⟨h1, _⟩
        · exact ⟨h2, h3⟩
        · exact absurd rfl h1
      subst hl0
      have HRR := Lib.hid hRR
      clear hRR
      go_wp2_with fail
      have hrs := rowset3 R8.out (.slice A l.length c') (.int .i64 0) (.int .i64 0)
      have hdn := walkS_done hTT R8.out HO.out HB.out (.slice A l.length c') (.int .i64 0) (.int .i64 0)
      rw [HRR.out]
      exact bodyPost_ret (v := walkV A c' (l, 0, 0)) (by simp [results, Tryz.results102, go_sem, walkV, hrs]) rfl ⟨A, c', rfl, hdn.1, hdn.2⟩
    · have e0 : ((a : Int) != 0) = true := by simp; omega
      have HG : Hid (walkGo t n (lkN z u) own (n - l.length + 1) l last a = R) := by
        rcases HST.out with ⟨h1, _⟩ | ⟨_, h2⟩
        · exact absurd h1 ha0
        · exact h2
      by_cases hd : t ≤ a ∧ a < n
      · have hw1 : (decide ((t : Int) ≤ (a : Int)) && decide ((a : Int) ≤ (n : Int) - 1)) = true := by simp; omega
        have HD := Lib.hid hd
        have hca := hOW.cell hd.2
        have hin : a < n := hd.2
        by_cases hmem : a ∈ l
        · have HRR := Lib.hid ((walkGo_loop (m := n - l.length) (L := lkN z u) (own := own) (last := last) hd hmem).symm.trans HG)
          have HW2 := Lib.hid (show hasZ (fun i => ((l.getD i 0 : Nat) : Int)) l.length (a : Int) = true by rw [HM.out]; simpa using hmem)
          clear hd ha0 hmem
          go_wp2_with (first | (go_at_call 128; refine (specData_any a hW (by omega)).mono ?_; rw [hw1]; rintro e w1 ⟨rfl, rfl⟩) | (go_at_call 85; refine (l00Has_any _ _ (HS.out.drew) (by omega)).mono ?_; rw [HW2.out]; rintro e w2 ⟨rfl, rfl⟩))
          have hx8 := (R8.out.far (p := ⟨w.heap.size + 1 + 1, 1, none⟩) hne89 (.int .i64 5)).far (p := ⟨w.heap.size + 1 + 1, 2, none⟩) hne89 (.int .i64 last)
          have hrs := rowset3 hx8 (.slice A l.length c') (.int .i64 5) (.int .i64 last)
          have hdn := walkS_done hTT hx8 (own_farR (own_farR HO.out R9.out hTT 1 (.int .i64 5)) (R9.out.set 1 (.int .i64 5)) hTT 2 (.int .i64 last)) ((HB.out.setCell (p := ⟨w.heap.size + 1 + 1, 1, none⟩) hle9 (.int .i64 5)).setCell (p := ⟨w.heap.size + 1 + 1, 2, none⟩) hle9 (.int .i64 last)) (.slice A l.length c') (.int .i64 5) (.int .i64 last)
          rw [← HRR.out]
          exact bodyPost_ret (v := walkV A c' (l, 5, last)) (by simp [results, Tryz.results102, go_sem, walkV, hrs]) rfl ⟨A, c', rfl, hdn.1.drew, hdn.2.drew⟩
        · have HW2 := Lib.hid (show hasZ (fun i => ((l.getD i 0 : Nat) : Int)) l.length (a : Int) = false by rw [HM.out]; simpa using hmem)
          obtain ⟨y, hy⟩ : ∃ y, own a = y := ⟨_, rfl⟩
          rw [hy] at hca
          by_cases hc : 0 ≤ y
          · have HRR := Lib.hid ((walkGo_cross (m := n - l.length) (L := lkN z u) (own := own) (last := last) hd hmem (by rw [hy]; exact hc)).symm.trans HG)
            clear hd ha0 hmem hy
            go_wp2_with (first | (go_at_call 128; refine (specData_any a hW (by omega)).mono ?_; rw [hw1]; rintro e w1 ⟨rfl, rfl⟩) | (go_at_call 85; refine (l00Has_any _ _ (HS.out.drew) (by omega)).mono ?_; rw [HW2.out]; rintro e w2 ⟨rfl, rfl⟩))
            have hx8 := (R8.out.far (p := ⟨w.heap.size + 1 + 1, 1, none⟩) hne89 (.int .i64 6)).far (p := ⟨w.heap.size + 1 + 1, 2, none⟩) hne89 (.int .i64 last)
            have hrs := rowset3 hx8 (.slice A l.length c') (.int .i64 6) (.int .i64 last)
            have hdn := walkS_done hTT hx8 (own_farR (own_farR HO.out R9.out hTT 1 (.int .i64 6)) (R9.out.set 1 (.int .i64 6)) hTT 2 (.int .i64 last)) ((HB.out.setCell (p := ⟨w.heap.size + 1 + 1, 1, none⟩) hle9 (.int .i64 6)).setCell (p := ⟨w.heap.size + 1 + 1, 2, none⟩) hle9 (.int .i64 last)) (.slice A l.length c') (.int .i64 6) (.int .i64 last)
            rw [← HRR.out]
            exact bodyPost_ret (v := walkV A c' (l, 6, last)) (by simp [results, Tryz.results102, go_sem, walkV, hrs]) rfl ⟨A, c', rfl, hdn.1.drew, hdn.2.drew⟩
          · have HNC := Lib.hid (show own a < 0 by rw [hy]; omega)
            have HMM := Lib.hid hmem
            have HY := Lib.hid hy
            obtain ⟨x, hx⟩ : ∃ x, lkN z u a = x := ⟨_, rfl⟩
            have hx256 : x < 256 := by rw [← hx]; exact lkN_lt z u a
            have HX := Lib.hid hx
            have HPU := Lib.hid HO.out.drew
            have HLK := Lib.hid (fun (X : World) (hX : ChW X p g n z e d t N c u) => (specLink_any a hX (by omega) (by omega)).mono fun r w' h => (show r = .returned (.int .i64 (x : Int)) ∧ w' = X.drew from ⟨h.1.trans (by rw [← hx]; rfl), h.2⟩))
            clear hx hmem hy
            go_upto_region 16 with (first
              | (go_at_call 128; refine (specData_any a hW (by omega)).mono ?_; rw [hw1]; rintro e w1 ⟨rfl, rfl⟩)
              | (go_at_call 85; refine (l00Has_any _ _ (HS.out.drew) (by omega)).mono ?_; rw [HW2.out]; rintro e w2 ⟨rfl, rfl⟩)
              | (at_builtin; refine wpList_pushG (.tmp 46) (.tmp 48) 74 (w.heap.size + 1) 2 (.int .i64 0) _ 8 _ l.length _ HPU.out rfl rfl Tryz.underlying74 infoI64 rfl rfl rfl rfl rfl (by omega) (by omega) hwz ?_; intro A' c2 w3 ho3 hg3; have hi3 := intsR_snoc ho3; have r93 := rw_grown R9.out.drew hg3 (own_ne HPU.out R9.out.drew hTT); have n0 := r93.cell 0; have n1 := r93.cell 1; have n2 := r93.cell 2; have m0 := r93.frozen 0; have m1 := r93.frozen 1; have m2 := r93.frozen 2; obtain ⟨X, hX⟩ : ∃ X, X = w3.setCell ⟨w.heap.size + 1 + 1, 0, none⟩ (.slice (some A') (l.length + 1) c2) := ⟨_, rfl⟩; obtain ⟨r84, r94, hi4, hb4⟩ := walkS_step hTT HPU.out R8.out.drew R9.out.drew hi3 hg3 HB.out.drew (.slice (some A') (l.length + 1) c2) hX; have HXX := Lib.hid hX; clear hX)
              | (go_at_call 79; rw [← HXX.out]; refine (HLK.out _ (HH.out.below hb4)).mono ?_; rintro e1 w4 ⟨rfl, rfl⟩))
            have HR84 := Lib.hid r84
            have HR94 := Lib.hid r94
            have HI4 := Lib.hid hi4
            have HB4 := Lib.hid hb4
            have v0 := r94.cell 0; have v1 := r94.cell 1; have v2 := r94.cell 2; have vf1 := r94.frozen 1; have vf2 := r94.frozen 2
            have u0 := r84.cell 0; have u1 := r84.cell 1; have u2 := r84.cell 2; have uf0 := r84.frozen 0; have uf1 := r84.frozen 1; have uf2 := r84.frozen 2
            clear n0 n1 n2 m0 m1 m2 r93 r84 r94 hi3 ho3 hg3 q0 q1 q2 k0 k1 k2 f0 f1 f2 g0 g1 g2 hca hi4 hb4
            by_cases h255 : x = 255
            · have e2 : ((x : Int) == 255) = true := by simp; omega
              have HRR := Lib.hid ((walkGo_end (m := n - l.length) (L := lkN z u) (own := own) (last := last) HD.out HMM.out (Int.not_le.2 HNC.out) (by rw [HX.out]; exact h255)).symm.trans HG)
              clear h255
              go_wp2_with fail
              have hrs := rowset3 HR84.out (.slice (some A') (l.length + 1) c2) (.int .i64 0) (.int .i64 0)
              have hdn := walkS_done hTT HR84.out HI4.out HB4.out (.slice (some A') (l.length + 1) c2) (.int .i64 0) (.int .i64 0)
              rw [← HRR.out]
              exact bodyPost_ret (v := walkV (some A') c2 (l ++ [a], 0, 0)) (by simp [results, Tryz.results102, go_sem, walkV, hrs]) rfl ⟨some A', c2, rfl, hdn.1.drew, hdn.2.drew⟩
            · have e2 : ((x : Int) == 255) = false := by simp; omega
              have H255 := Lib.hid h255
              clear h255
              have h4 : x = 0 ∨ (x ≠ 0 ∧ x = 254) ∨ (x ≠ 0 ∧ x ≠ 254 ∧ x = 253) ∨ (x ≠ 0 ∧ x ≠ 254 ∧ x ≠ 253) := by omega
              rcases h4 with h1 | ⟨h1, h2⟩ | ⟨h1, h2, h3⟩ | ⟨h1, h2, h3⟩
              · have e3 : ((x : Int) == 0) = true := by simp; omega
                have hop : isOpenN x = true := by unfold isOpenN; simp; omega
                have HRR := Lib.hid ((walkGo_open (m := n - l.length) (L := lkN z u) (own := own) (last := last) HD.out HMM.out (Int.not_le.2 HNC.out) (by rw [HX.out]; exact hop)).symm.trans HG)
                clear h1 hop
                go_wp2_with fail
                have hx8 := (HR84.out.far (p := ⟨w.heap.size + 1 + 1, 1, none⟩) hne89 (.int .i64 7)).far (p := ⟨w.heap.size + 1 + 1, 2, none⟩) hne89 (.int .i64 a)
                have hrs := rowset3 hx8 (.slice (some A') (l.length + 1) c2) (.int .i64 7) (.int .i64 a)
                have hdn := walkS_done hTT hx8 (own_farR (own_farR HI4.out HR94.out hTT 1 (.int .i64 7)) (HR94.out.set 1 (.int .i64 7)) hTT 2 (.int .i64 a)) ((HB4.out.setCell (p := ⟨w.heap.size + 1 + 1, 1, none⟩) hle9 (.int .i64 7)).setCell (p := ⟨w.heap.size + 1 + 1, 2, none⟩) hle9 (.int .i64 a)) (.slice (some A') (l.length + 1) c2) (.int .i64 7) (.int .i64 a)
                rw [← HRR.out]
                exact bodyPost_ret (v := walkV (some A') c2 (l ++ [a], 7, a)) (by simp [results, Tryz.results102, go_sem, walkV, hrs]) rfl ⟨some A', c2, rfl, hdn.1.drew, hdn.2.drew⟩
              · have e3 : ((x : Int) == 0) = false := by simp; omega
                have e4 : ((x : Int) == 254) = true := by simp; omega
                have hop : isOpenN x = true := by unfold isOpenN; simp; omega
                have HRR := Lib.hid ((walkGo_open (m := n - l.length) (L := lkN z u) (own := own) (last := last) HD.out HMM.out (Int.not_le.2 HNC.out) (by rw [HX.out]; exact hop)).symm.trans HG)
                clear h1 h2 hop
                go_wp2_with fail
                have hx8 := (HR84.out.far (p := ⟨w.heap.size + 1 + 1, 1, none⟩) hne89 (.int .i64 7)).far (p := ⟨w.heap.size + 1 + 1, 2, none⟩) hne89 (.int .i64 a)
                have hrs := rowset3 hx8 (.slice (some A') (l.length + 1) c2) (.int .i64 7) (.int .i64 a)
                have hdn := walkS_done hTT hx8 (own_farR (own_farR HI4.out HR94.out hTT 1 (.int .i64 7)) (HR94.out.set 1 (.int .i64 7)) hTT 2 (.int .i64 a)) ((HB4.out.setCell (p := ⟨w.heap.size + 1 + 1, 1, none⟩) hle9 (.int .i64 7)).setCell (p := ⟨w.heap.size + 1 + 1, 2, none⟩) hle9 (.int .i64 a)) (.slice (some A') (l.length + 1) c2) (.int .i64 7) (.int .i64 a)
                rw [← HRR.out]
                exact bodyPost_ret (v := walkV (some A') c2 (l ++ [a], 7, a)) (by simp [results, Tryz.results102, go_sem, walkV, hrs]) rfl ⟨some A', c2, rfl, hdn.1.drew, hdn.2.drew⟩
              · have e3 : ((x : Int) == 0) = false := by simp; omega
                have e4 : ((x : Int) == 254) = false := by simp; omega
                have e5 : ((x : Int) == 253) = true := by simp; omega
                have hop : isOpenN x = true := by unfold isOpenN; simp; omega
                have HRR := Lib.hid ((walkGo_open (m := n - l.length) (L := lkN z u) (own := own) (last := last) HD.out HMM.out (Int.not_le.2 HNC.out) (by rw [HX.out]; exact hop)).symm.trans HG)
                clear h1 h2 h3 hop
                go_wp2_with fail
                have hx8 := (HR84.out.far (p := ⟨w.heap.size + 1 + 1, 1, none⟩) hne89 (.int .i64 7)).far (p := ⟨w.heap.size + 1 + 1, 2, none⟩) hne89 (.int .i64 a)
                have hrs := rowset3 hx8 (.slice (some A') (l.length + 1) c2) (.int .i64 7) (.int .i64 a)
                have hdn := walkS_done hTT hx8 (own_farR (own_farR HI4.out HR94.out hTT 1 (.int .i64 7)) (HR94.out.set 1 (.int .i64 7)) hTT 2 (.int .i64 a)) ((HB4.out.setCell (p := ⟨w.heap.size + 1 + 1, 1, none⟩) hle9 (.int .i64 7)).setCell (p := ⟨w.heap.size + 1 + 1, 2, none⟩) hle9 (.int .i64 a)) (.slice (some A') (l.length + 1) c2) (.int .i64 7) (.int .i64 a)
                rw [← HRR.out]
                exact bodyPost_ret (v := walkV (some A') c2 (l ++ [a], 7, a)) (by simp [results, Tryz.results102, go_sem, walkV, hrs]) rfl ⟨some A', c2, rfl, hdn.1.drew, hdn.2.drew⟩
              · have e3 : ((x : Int) == 0) = false := by simp; omega
                have e4 : ((x : Int) == 254) = false := by simp; omega
                have e5 : ((x : Int) == 253) = false := by simp; omega
                have hop' : isOpenN x = false := by unfold isOpenN; simp; omega
                have HNX := Lib.hid (show walkGo t n (lkN z u) own (n - (l ++ [a]).length + 1) (l ++ [a]) a x = R by
                  have := (HL.out.snoc HD.out HMM.out).len
                  rw [← HG.out, walkGo_step HD.out HMM.out (Int.not_le.2 HNC.out) (by rw [HX.out]; exact H255.out) (by rw [HX.out]; exact hop'), HX.out]
                  simp at this
                  rw [show n - (l ++ [a]).length + 1 = n - l.length by simp; omega])
                have HX0 := Lib.hid h1
                clear h1 h2 h3
                go_wp2_with fail
                go_roundg (n + 1 - (l ++ [a]).length)
                case measure => have := (HL.out.snoc HD.out HMM.out).len; simp at this ⊢; omega
                case rel => exact ⟨l ++ [a], a, x, some A', c2, Nat.le_refl _, rfl, rfl, by omega, HL.out.snoc HD.out HMM.out, HR84.out.drew, by simpa using HR94.out.drew, HI4.out.drew, HB4.out.drew, .inr ⟨HX0.out, HNX.out⟩⟩
      · have hw1 : (decide ((t : Int) ≤ (a : Int)) && decide ((a : Int) ≤ (n : Int) - 1)) = false := by
          rw [Bool.eq_false_iff]
          intro h
          simp at h
          omega
        have HRR := Lib.hid ((walkGo_range (m := n - l.length) (L := lkN z u) (own := own) (l := l) (last := last) hd).symm.trans HG)
        clear hd ha0
        go_wp2_with (go_at_call 128; refine (specData_any a hW (by omega)).mono ?_; rw [hw1]; rintro e w1 ⟨rfl, rfl⟩)
        have hx8 := (R8.out.far (p := ⟨w.heap.size + 1 + 1, 1, none⟩) hne89 (.int .i64 4)).far (p := ⟨w.heap.size + 1 + 1, 2, none⟩) hne89 (.int .i64 last)
        have hrs := rowset3 hx8 (.slice A l.length c') (.int .i64 4) (.int .i64 last)
        have hdn := walkS_done hTT hx8 (own_farR (own_farR HO.out R9.out hTT 1 (.int .i64 4)) (R9.out.set 1 (.int .i64 4)) hTT 2 (.int .i64 last)) ((HB.out.setCell (p := ⟨w.heap.size + 1 + 1, 1, none⟩) hle9 (.int .i64 4)).setCell (p := ⟨w.heap.size + 1 + 1, 2, none⟩) hle9 (.int .i64 last)) (.slice A l.length c') (.int .i64 4) (.int .i64 last)
        rw [← HRR.out]
        exact bodyPost_ret (v := walkV A c' (l, 4, last)) (by simp [results, Tryz.results102, go_sem, walkV, hrs]) rfl ⟨A, c', rfl, hdn.1.drew, hdn.2.drew⟩
end Go.Proofs.YtapkckpjeoedaaaGreatDoor
