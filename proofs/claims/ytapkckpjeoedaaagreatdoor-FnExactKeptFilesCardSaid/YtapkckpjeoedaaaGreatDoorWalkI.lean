/-
  Disks of chains: the walk along a chain: the program's side.
-/
import Derived.Test.YtapkckpjeoedaaaGreatDoorGoneP
import Derived.Deep.LoopGhost
namespace Go.Proofs.YtapkckpjeoedaaaGreatDoor
open Go Go.ChangeShapes Go.WideShapes Go.ChangeAt Go.RowKit lib
set_option linter.unusedVariables false
set_option maxRecDepth 100000
/-- a walk as a value -/
def walkV (A : Option Addr) (c : Nat) (r : List Nat × Nat × Nat) : Value := .agg #[.slice A r.1.length c, .int .i64 (r.2.1 : Int), .int .i64 (r.2.2 : Int)]
theorem grown_below {w a b : World} {row : Option Nat} {B : Nat} (h : w.grownBy a row) (hb : Below B a b) (hB : w.heap.size ≤ B) : w.grownBy b row :=
  ⟨hb.os.trans h.os, hb.tape.trans h.tape, hb.output.trans h.output, Nat.le_trans h.size hb.size, fun i hi hn => (hb.block i (by omega)).trans (h.block i hi hn)⟩
/-- the result is stored: what stands -/
theorem walk_done {w X : World} {e ei o n c : Nat} {A : Option Addr} {l : List Nat} {f : Nat → Int} {b0 b1 b2 : Value} (h8 : Rw X w.heap.size e #[b0, b1, b2]) (hi : IntsR (w.heap.size + 2) X A c l) (ho : ORow X ei o n f) (hg : w.grownBy X (some o)) (hol : o < w.heap.size) (v0 v1 v2 : Value) :
    IntsR w.heap.size (((X.setCell ⟨w.heap.size, 0, none⟩ v0).setCell ⟨w.heap.size, 1, none⟩ v1).setCell ⟨w.heap.size, 2, none⟩ v2) A c l ∧ ORow (((X.setCell ⟨w.heap.size, 0, none⟩ v0).setCell ⟨w.heap.size, 1, none⟩ v1).setCell ⟨w.heap.size, 2, none⟩ v2) ei o n f ∧ w.grownBy (((X.setCell ⟨w.heap.size, 0, none⟩ v0).setCell ⟨w.heap.size, 1, none⟩ v1).setCell ⟨w.heap.size, 2, none⟩ v2) (some o) := by
  have hb : ∀ j, (⟨w.heap.size, j, none⟩ : Addr).block < w.heap.size + 2 := fun j => by show w.heap.size < _; omega
  have ho' : ∀ j, o ≠ (⟨w.heap.size, j, none⟩ : Addr).block := fun j => by show o ≠ w.heap.size; omega
  exact ⟨(((hi.far (hb 0) v0).far (hb 1) v1).far (hb 2) v2).base (by omega), ((ho.far (ho' 0) v0).far (ho' 1) v1).far (ho' 2) v2, only_setCell (only_setCell (only_setCell hg (.inr (Nat.le_refl _)) v0) (.inr (Nat.le_refl _)) v1) (.inr (Nat.le_refl _)) v2⟩
/-- a block is taken: what stands -/
theorem walk_step {w w3 : World} {T ei o n c2 a : Nat} {k : Int} {A' : Addr} {l : List Nat} {own : Nat → Int} {b0 b1 b2 s0 s1 s2 : Value} (h8 : Rw w3 w.heap.size T #[b0, b1, b2]) (h9 : Rw w3 (w.heap.size + 1) T #[s0, s1, s2]) (hi : IntsR (w.heap.size + 2) w3 (some A') c2 (l ++ [a])) (hO : ORow w3 ei o n (setOwn own l k)) (hg : w.grownBy w3 (some o)) (hol : o < w.heap.size) (v : Value) {X : World}
    (hX : X = ((w3.setCell ⟨w.heap.size + 1, 0, none⟩ v).setCell ⟨o, a, none⟩ (.int .i64 k)).drew) :
    Rw X w.heap.size T #[b0, b1, b2] ∧ Rw X (w.heap.size + 1) T #[v, s1, s2] ∧ IntsR (w.heap.size + 2) X (some A') c2 (l ++ [a]) ∧ ORow X ei o n (setOwn own (l ++ [a]) k) ∧ w.grownBy X (some o) ∧ w.heap.size + 2 ≤ X.heap.size := by
  have h1 : w.heap.size ≠ (⟨w.heap.size + 1, 0, none⟩ : Addr).block := by show w.heap.size ≠ w.heap.size + 1; omega
  have h2 : w.heap.size ≠ (⟨o, a, none⟩ : Addr).block := by show w.heap.size ≠ o; omega
  have h3 : w.heap.size + 1 ≠ (⟨o, a, none⟩ : Addr).block := by show w.heap.size + 1 ≠ o; omega
  have h4 : o ≠ (⟨w.heap.size + 1, 0, none⟩ : Addr).block := by show o ≠ w.heap.size + 1; omega
  have h5 : (⟨w.heap.size + 1, 0, none⟩ : Addr).block < w.heap.size + 2 := by show w.heap.size + 1 < _; omega
  have h6 : (⟨o, a, none⟩ : Addr).block < w.heap.size + 2 := by show o < _; omega
  have hO' := ((hO.far h4 v).set a k).drew
  rw [setOwn_snoc] at hO'
  subst hX
  have h9l := h9.lt
  exact ⟨((h8.far h1 v).far h2 _).drew, ((h9.set 0 v).far h3 _).drew, ((hi.far h5 v).far h6 _).drew, hO', only_drew (only_setCell (only_setCell hg (.inr (show w.heap.size ≤ w.heap.size + 1 by omega)) v) (.inl rfl) _), by simp; omega⟩
set_option maxHeartbeats 4000000 in
theorem implWalkFrom_any {w : World} {p g n z e d t N c o co : Nat} {u : Nat → UInt8} (first k : Nat) (own : Nat → Int) (hfi : first ≤ 255) (h : ChW w p g n z e d t N c u) (hn : n ≤ 128) (hNz : z + n ≤ N) (hN : N ≤ 4096)
    (hO : ORow w 2 o n own) (hk : ∀ i, own i < (k : Int)) (hpo : p ≠ o) (hgo : g ≠ o) (hncap : n ≤ co) :
    Calls Tryz.prog 106 #[.pointer (some ⟨p, 0, none⟩), .int .i64 first, .int .i64 k, .slice (some ⟨o, 0, none⟩) n co] w fun r w' => ∃ A c, r = .returned (walkV A c (walkOf t n (lkN z u) own first)) ∧ IntsR w.heap.size w' A c (walkOf t n (lkN z u) own first).1 ∧ ORow w' 2 o n (setOwn own (walkOf t n (lkN z u) own first).1 k) ∧ w.grownBy w' (some o) := by
  have hol := hO.lt
  have r1 := (Rw.new w 103 #[.slice none 0 0, .int .i64 0, .int .i64 0]).alloc (.cells #[.slice none 0 0, .int .i64 0, .int .i64 0] 103)
  have r2 := Rw.new (w.alloc (.cells #[.slice none 0 0, .int .i64 0, .int .i64 0] 103)) 103 #[.slice none 0 0, .int .i64 0, .int .i64 0]
  rw [World.size_alloc] at r2
  have hgr : w.grownBy ((w.alloc (.cells #[.slice none 0 0, .int .i64 0, .int .i64 0] 103)).alloc (.cells #[.slice none 0 0, .int .i64 0, .int .i64 0] 103)) (some o) := only_alloc (only_alloc (only_refl _ _) _) _
  have hOO := (hO.alloc (.cells #[.slice none 0 0, .int .i64 0, .int .i64 0] 103)).alloc (.cells #[.slice none 0 0, .int .i64 0, .int .i64 0] 103)
  have hsz : ((w.alloc (.cells #[.slice none 0 0, .int .i64 0, .int .i64 0] 103)).alloc (.cells #[.slice none 0 0, .int .i64 0, .int .i64 0] 103)).heap.size = w.heap.size + 2 := by simp
  obtain ⟨R, hR⟩ : ∃ R, walkOf t n (lkN z u) own first = R := ⟨_, rfl⟩
  rw [hR]
  have HR := Lib.hid hR
  have HR1 := Lib.hid r1
  have HR2 := Lib.hid r2
  have HGR := Lib.hid hgr
  have HOO := Lib.hid hOO
  have HSZ := Lib.hid hsz
  have HK := Lib.hid hk
  have hpg := h.plt
  have hgg := h.row.lt
  have HH := Lib.hid h
  clear r1 r2 hgr hOO hsz hR hk h hO
  go_enter Tryz.func106, Tryz.ntmps106
  go_wp2_with fail
  go_loopg [10, 11] (n + 1) (fun g' s10 s11 wr => ∃ (l : List Nat) (last a : Nat) (A : Option Addr) (c' : Nat), n + 1 - l.length ≤ g' ∧ s10 = .int .i64 last ∧ s11 = .int .i64 a ∧ a ≤ 255 ∧ ChL t n l ∧
      Rw wr w.heap.size 103 #[.slice none 0 0, .int .i64 0, .int .i64 0] ∧ Rw wr (w.heap.size + 1) 103 #[.slice A l.length c', .int .i64 0, .int .i64 0] ∧ IntsR (w.heap.size + 2) wr A c' l ∧ w.heap.size + 2 ≤ wr.heap.size ∧
      ORow wr 2 o n (setOwn own l k) ∧ w.grownBy wr (some o) ∧ ((a = 0 ∧ last = 0 ∧ R = (l, 0, 0)) ∨ (a ≠ 0 ∧ walkGo t n (lkN z u) own (n - l.length + 1) l last a = R)))
  case atStart =>
    refine ⟨[], 0, first, none, 0, by simp, rfl, rfl, hfi, ChL.nil t n, HR1.out, HR2.out, World.ownsRow_nil _ _ _ _, Nat.le_of_eq HSZ.out.symm, by rw [setOwn_nil]; exact HOO.out, HGR.out, ?_⟩
    by_cases hf : first = 0
    · left
      exact ⟨hf, rfl, by rw [← HR.out]; unfold walkOf; rw [if_pos hf]⟩
    · right
      exact ⟨hf, by rw [← HR.out]; unfold walkOf; rw [if_neg hf]; rfl⟩
  case round =>
    obtain ⟨l, last, a, A, c', hg', rfl, rfl, ha, hl, r8, r9, ho, hwz, hO, hgr, hst⟩ := hrel
    have hlen := hl.len
    have HST := Lib.hid hst
    have HO := Lib.hid ho
    have HL := Lib.hid hl
    have HGRR := Lib.hid hgr
    have HRO := Lib.hid hO
    have R8 := Lib.hid r8
    have R9 := Lib.hid r9
    have hW := HH.out.keep (hgr.block p hpg (fun e => hpo (by injection e))) hgr.size (HH.out.row.grown hgr (fun e => hgo (by injection e)))
    have HM := Lib.hid (hasZ_mem l a)
    clear hst ho hl hgr hO
    have q0 := r9.cell 0
    have q1 := r9.cell 1
    have q2 := r9.cell 2
    have k0 := r8.cell 0
    have k1 := r8.cell 1
    have k2 := r8.cell 2
    have f0 := r8.frozen 0
    have f1 := r8.frozen 1
    have f2 := r8.frozen 2
    have g0 := r9.frozen 0
    have g1 := r9.frozen 1
    have g2 := r9.frozen 2
    clear r8 r9
    have hne89 : w.heap.size ≠ w.heap.size + 1 := by omega
    have hlt9 : w.heap.size + 1 < w.heap.size + 2 := by omega
    have hneo9 : o ≠ w.heap.size + 1 := by omega
    have hle9 : w.heap.size ≤ w.heap.size + 1 := by omega
    have hno8 : o ≠ w.heap.size := by omega
    have hne8 : w.heap.size < w.heap.size + 1 := by omega
    have hle10 : w.heap.size ≤ w.heap.size + 2 := by omega
    by_cases ha0 : a = 0
    · subst ha0
      obtain ⟨hl0, hRR⟩ : last = 0 ∧ R = (l, 0, 0) := by
        rcases HST.out with ⟨_, h2, h3⟩ | ⟨h1, _⟩
        · exact ⟨h2, h3⟩
        · exact absurd rfl h1
      subst hl0
      have HRR := Lib.hid hRR
      clear hRR
      go_wp2_with fail
      have hrs := rowset3 R8.out (.slice A l.length c') (.int .i64 0) (.int .i64 0)
      have hdn := walk_done R8.out HO.out HRO.out HGRR.out hol (.slice A l.length c') (.int .i64 0) (.int .i64 0)
      rw [HRR.out]
      exact bodyPost_ret (v := walkV A c' (l, 0, 0)) (by simp [results, Tryz.results106, go_sem, walkV, hrs]) rfl ⟨A, c', rfl, hdn.1, hdn.2.1, hdn.2.2⟩
    · have e0 : ((a : Int) != 0) = true := by simp; omega
      have HG : Hid (walkGo t n (lkN z u) own (n - l.length + 1) l last a = R) := by
        rcases HST.out with ⟨h1, _⟩ | ⟨_, h2⟩
        · exact absurd h1 ha0
        · exact h2
      by_cases hd : t ≤ a ∧ a < n
      · have hw1 : (decide ((t : Int) ≤ (a : Int)) && decide ((a : Int) ≤ (n : Int) - 1)) = true := by simp; omega
        have HD := Lib.hid hd
        have hca := HRO.out.cell hd.2
        have hin : a < n := hd.2
        by_cases hmem : a ∈ l
        · rw [show setOwn own l (k : Int) a = (k : Int) by unfold setOwn; rw [if_pos hmem]] at hca
          have HRR := Lib.hid ((walkGo_loop (m := n - l.length) (L := lkN z u) (own := own) (last := last) hd hmem).symm.trans HG)
          clear hd ha0 hmem
          go_wp2_with (go_at_call 130; refine (implIsData_any a hW (by omega)).mono ?_; rw [hw1]; rintro e w1 ⟨rfl, rfl⟩)
          have hx8 := (R8.out.far (p := ⟨w.heap.size + 1, 1, none⟩) hne89 (.int .i64 5)).far (p := ⟨w.heap.size + 1, 2, none⟩) hne89 (.int .i64 last)
          have hrs := rowset3 hx8 (.slice A l.length c') (.int .i64 5) (.int .i64 last)
          have hdn := walk_done hx8 ((HO.out.far (p := ⟨w.heap.size + 1, 1, none⟩) hlt9 (.int .i64 5)).far (p := ⟨w.heap.size + 1, 2, none⟩) hlt9 (.int .i64 last)) ((HRO.out.far (p := ⟨w.heap.size + 1, 1, none⟩) hneo9 (.int .i64 5)).far (p := ⟨w.heap.size + 1, 2, none⟩) hneo9 (.int .i64 last)) (only_setCell (p := ⟨w.heap.size + 1, 2, none⟩) (only_setCell (p := ⟨w.heap.size + 1, 1, none⟩) HGRR.out (.inr hle9) (.int .i64 5)) (.inr hle9) (.int .i64 last)) hol (.slice A l.length c') (.int .i64 5) (.int .i64 last)
          rw [← HRR.out]
          exact bodyPost_ret (v := walkV A c' (l, 5, last)) (by simp [results, Tryz.results106, go_sem, walkV, hrs]) rfl ⟨A, c', rfl, hdn.1.drew, hdn.2.1.drew, only_drew hdn.2.2⟩
        · have hyk := HK.out a
          rw [show setOwn own l (k : Int) a = own a by unfold setOwn; rw [if_neg hmem]] at hca
          obtain ⟨y, hy⟩ : ∃ y, own a = y := ⟨_, rfl⟩
          rw [hy] at hca hyk
          have e1 : (y == (k : Int)) = false := by simp; omega
          by_cases hc : 0 ≤ y
          · have HRR := Lib.hid ((walkGo_cross (m := n - l.length) (L := lkN z u) (own := own) (last := last) hd hmem (by rw [hy]; exact hc)).symm.trans HG)
            clear hd ha0 hmem hy
            go_wp2_with (go_at_call 130; refine (implIsData_any a hW (by omega)).mono ?_; rw [hw1]; rintro e w1 ⟨rfl, rfl⟩)
            have hx8 := (R8.out.far (p := ⟨w.heap.size + 1, 1, none⟩) hne89 (.int .i64 6)).far (p := ⟨w.heap.size + 1, 2, none⟩) hne89 (.int .i64 last)
            have hrs := rowset3 hx8 (.slice A l.length c') (.int .i64 6) (.int .i64 last)
            have hdn := walk_done hx8 ((HO.out.far (p := ⟨w.heap.size + 1, 1, none⟩) hlt9 (.int .i64 6)).far (p := ⟨w.heap.size + 1, 2, none⟩) hlt9 (.int .i64 last)) ((HRO.out.far (p := ⟨w.heap.size + 1, 1, none⟩) hneo9 (.int .i64 6)).far (p := ⟨w.heap.size + 1, 2, none⟩) hneo9 (.int .i64 last)) (only_setCell (p := ⟨w.heap.size + 1, 2, none⟩) (only_setCell (p := ⟨w.heap.size + 1, 1, none⟩) HGRR.out (.inr hle9) (.int .i64 6)) (.inr hle9) (.int .i64 last)) hol (.slice A l.length c') (.int .i64 6) (.int .i64 last)
            rw [← HRR.out]
            exact bodyPost_ret (v := walkV A c' (l, 6, last)) (by simp [results, Tryz.results106, go_sem, walkV, hrs]) rfl ⟨A, c', rfl, hdn.1.drew, hdn.2.1.drew, only_drew hdn.2.2⟩
          · have HNC := Lib.hid (show own a < 0 by rw [hy]; omega)
            have HMM := Lib.hid hmem
            have HY := Lib.hid hy
            obtain ⟨x, hx⟩ : ∃ x, lkN z u a = x := ⟨_, rfl⟩
            have hx256 : x < 256 := by rw [← hx]; exact lkN_lt z u a
            have hxw : IntKind.i64.wrap (x : Int) = (x : Int) := by rw [IntKind.wrap_i64]; omega
            have HX := Lib.hid hx
            have HPU := Lib.hid HO.out.drew
            have hl128 : l.length ≤ 128 := by omega
            have HCX := Lib.hid (fun (X : World) (hX : w.grownBy X (some o)) => HH.out.keep (hX.block p hpg (fun e => hpo (by injection e))) hX.size (HH.out.row.grown hX (fun e => hgo (by injection e))))
            have HLK := Lib.hid (fun (X : World) (hX : ChW X p g n z e d t N c u) => implLink_any a hX (by omega) (by omega))
            have HRC := Lib.hid (fun (X : World) (hX : ChW X p g n z e d t N c u) => (show X.cell? ⟨g, z + a, none⟩ = some (.int .u8 (x : Int)) by rw [hX.row.cell (by omega), ← hx]; rfl))
            clear hx hmem hy
            go_upto_region 18 with (first
              | (go_at_call 130; refine (implIsData_any a hW (by omega)).mono ?_; rw [hw1]; rintro e w1 ⟨rfl, rfl⟩)
              | (at_builtin; refine wpList_push (.tmp 47) (.tmp 49) 74 (w.heap.size + 2) 2 (.int .i64 0) _ 8 _ l.length _ HPU.out rfl rfl Tryz.underlying74 infoI64 rfl rfl rfl rfl rfl (by omega) (by omega) hwz ?_; intro A' c2 w3 ho3 hb3; have r93 := R9.out.drew.below hb3 hlt9; have r83 := R8.out.drew.below hb3 (Nat.lt_trans hne8 hlt9); have hO3 := HRO.out.drew.below hb3 (Nat.lt_trans hol (Nat.lt_trans hne8 hlt9)); have n0 := r93.cell 0; have n1 := r93.cell 1; have n2 := r93.cell 2; have m0 := r93.frozen 0; have m1 := r93.frozen 1; have m2 := r93.frozen 2; have oa := hO3.cell hin; have ofr := hO3.frozen hin; have hg3 := grown_below (only_drew HGRR.out) hb3 hle10; have hi3 := intsR_snoc ho3)
              | (go_at_call 65; refine (HLK.out _ (HCX.out _ (only_setCell (p := ⟨o, a, none⟩) (only_setCell (p := ⟨w.heap.size + 1, 0, none⟩) hg3 (.inr hle9) _) (.inl rfl) _))).mono ?_; rintro e1 w4 ⟨rfl, hw4⟩; obtain ⟨r84, r94, hi4, hO4, hg4, hz4⟩ := walk_step r83 r93 hi3 hO3 hg3 hol (.slice (some A') (l.length + 1) c2) hw4; have hC4 := HCX.out w4 hg4; have hrc4 := HRC.out w4 hC4; clear hw4))
            have HR84 := Lib.hid r84
            have HR94 := Lib.hid r94
            have v0 := r94.cell 0; have v1 := r94.cell 1; have v2 := r94.cell 2; have vf1 := r94.frozen 1; have vf2 := r94.frozen 2
            have u0 := r84.cell 0; have u1 := r84.cell 1; have u2 := r84.cell 2; have uf0 := r84.frozen 0; have uf1 := r84.frozen 1; have uf2 := r84.frozen 2
            clear n0 n1 n2 m0 m1 m2 oa ofr r83 r93 r84 r94 hO3 hi3 ho3 hg3 q0 q1 q2 k0 k1 k2 f0 f1 f2 g0 g1 g2 hca
            by_cases h255 : x = 255
            · have e2 : ((x : Int) == 255) = true := by simp; omega
              have HRR := Lib.hid ((walkGo_end (m := n - l.length) (L := lkN z u) (own := own) (last := last) HD.out HMM.out (Int.not_le.2 HNC.out) (by rw [HX.out]; exact h255)).symm.trans HG)
              clear h255
              go_wp2_with fail
              have hrs := rowset3 HR84.out (.slice (some A') (l.length + 1) c2) (.int .i64 0) (.int .i64 0)
              have hdn := walk_done HR84.out hi4 hO4 hg4 hol (.slice (some A') (l.length + 1) c2) (.int .i64 0) (.int .i64 0)
              rw [← HRR.out]
              exact bodyPost_ret (v := walkV (some A') c2 (l ++ [a], 0, 0)) (by simp [results, Tryz.results106, go_sem, walkV, hrs]) rfl ⟨some A', c2, rfl, hdn.1, hdn.2.1, hdn.2.2⟩
            · have e2 : ((x : Int) == 255) = false := by simp; omega
              have H255 := Lib.hid h255
              clear h255
              by_cases hop : isOpenN x = true
              · have HRR := Lib.hid ((walkGo_open (m := n - l.length) (L := lkN z u) (own := own) (last := last) HD.out HMM.out (Int.not_le.2 HNC.out) (by rw [HX.out]; exact hop)).symm.trans HG)
                go_wp2_with (go_at_call 131; refine (implIsOpen_any x _).mono ?_; rw [hop]; rintro e5 w5 ⟨rfl, rfl⟩)
                have hx8 := (HR84.out.far (p := ⟨w.heap.size + 1, 1, none⟩) hne89 (.int .i64 7)).far (p := ⟨w.heap.size + 1, 2, none⟩) hne89 (.int .i64 a)
                have hrs := rowset3 hx8 (.slice (some A') (l.length + 1) c2) (.int .i64 7) (.int .i64 a)
                have hdn := walk_done hx8 ((hi4.far (p := ⟨w.heap.size + 1, 1, none⟩) hlt9 (.int .i64 7)).far (p := ⟨w.heap.size + 1, 2, none⟩) hlt9 (.int .i64 a)) ((hO4.far (p := ⟨w.heap.size + 1, 1, none⟩) hneo9 (.int .i64 7)).far (p := ⟨w.heap.size + 1, 2, none⟩) hneo9 (.int .i64 a)) (only_setCell (p := ⟨w.heap.size + 1, 2, none⟩) (only_setCell (p := ⟨w.heap.size + 1, 1, none⟩) hg4 (.inr hle9) (.int .i64 7)) (.inr hle9) (.int .i64 a)) hol (.slice (some A') (l.length + 1) c2) (.int .i64 7) (.int .i64 a)
                rw [← HRR.out]
                exact bodyPost_ret (v := walkV (some A') c2 (l ++ [a], 7, a)) (by simp [results, Tryz.results106, go_sem, walkV, hrs]) rfl ⟨some A', c2, rfl, hdn.1, hdn.2.1, hdn.2.2⟩
              · have hop' : isOpenN x = false := by simpa using hop
                have HNX := Lib.hid (show walkGo t n (lkN z u) own (n - (l ++ [a]).length + 1) (l ++ [a]) a x = R by
                  have := (HL.out.snoc HD.out HMM.out).len
                  rw [← HG.out, walkGo_step HD.out HMM.out (Int.not_le.2 HNC.out) (by rw [HX.out]; exact H255.out) (by rw [HX.out]; exact hop'), HX.out]
                  simp at this
                  rw [show n - (l ++ [a]).length + 1 = n - l.length by simp; omega])
                have HX0 := Lib.hid (isOpenN_false hop').1
                clear hop
                go_wp2_with (go_at_call 131; refine (implIsOpen_any x _).mono ?_; rw [hop']; rintro e5 w5 ⟨rfl, rfl⟩)
                go_roundg (n + 1 - (l ++ [a]).length)
                case measure => have := (HL.out.snoc HD.out HMM.out).len; simp at this ⊢; omega
                case rel => exact ⟨l ++ [a], a, x, some A', c2, Nat.le_refl _, rfl, rfl, by omega, HL.out.snoc HD.out HMM.out, HR84.out, by simpa using HR94.out, hi4, hz4, hO4, hg4, .inr ⟨HX0.out, HNX.out⟩⟩
      · have hw1 : (decide ((t : Int) ≤ (a : Int)) && decide ((a : Int) ≤ (n : Int) - 1)) = false := by
          rw [Bool.eq_false_iff]
          intro h
          simp at h
          omega
        have HRR := Lib.hid ((walkGo_range (m := n - l.length) (L := lkN z u) (own := own) (l := l) (last := last) hd).symm.trans HG)
        clear hd ha0
        go_wp2_with (go_at_call 130; refine (implIsData_any a hW (by omega)).mono ?_; rw [hw1]; rintro e w1 ⟨rfl, rfl⟩)
        have hx8 := (R8.out.far (p := ⟨w.heap.size + 1, 1, none⟩) hne89 (.int .i64 4)).far (p := ⟨w.heap.size + 1, 2, none⟩) hne89 (.int .i64 last)
        have hrs := rowset3 hx8 (.slice A l.length c') (.int .i64 4) (.int .i64 last)
        have hdn := walk_done hx8 ((HO.out.far (p := ⟨w.heap.size + 1, 1, none⟩) hlt9 (.int .i64 4)).far (p := ⟨w.heap.size + 1, 2, none⟩) hlt9 (.int .i64 last)) ((HRO.out.far (p := ⟨w.heap.size + 1, 1, none⟩) hneo9 (.int .i64 4)).far (p := ⟨w.heap.size + 1, 2, none⟩) hneo9 (.int .i64 last)) (only_setCell (p := ⟨w.heap.size + 1, 2, none⟩) (only_setCell (p := ⟨w.heap.size + 1, 1, none⟩) HGRR.out (.inr hle9) (.int .i64 4)) (.inr hle9) (.int .i64 last)) hol (.slice A l.length c') (.int .i64 4) (.int .i64 last)
        rw [← HRR.out]
        exact bodyPost_ret (v := walkV A c' (l, 4, last)) (by simp [results, Tryz.results106, go_sem, walkV, hrs]) rfl ⟨A, c', rfl, hdn.1.drew, hdn.2.1.drew, only_drew hdn.2.2⟩
end Go.Proofs.YtapkckpjeoedaaaGreatDoor
