/-
  The reference's source of choices: a track's description, the whole.
-/
import Derived.Test.YtabmdbhbbmnkdaaDoorDrT
namespace Go.Proofs.YtabmdbhbbmnkdaaDoor
open Go Go.ChangeShapes Go.WideShapes Go.ChangeAt Go.RowKit Go.Joins lib
set_option linter.unusedVariables false
set_option linter.unusedSimpArgs false
set_option maxRecDepth 100000
/-- what stands while a track is drawn: the source, the result's block q, the track's box b -/
def TSt (w0 : World) (p q b n c : Nat) (A : Option Addr) (sc : Array Value) (K : Nat) (W : World) : Prop :=
  SrcOK W p A n c K ∧ w0.grownBy W (some p) ∧ Rw W q 25 #[.int .i64 0, .int .i64 0, .slice none 0 0] ∧ Rw W b 25 sc ∧ p < w0.heap.size ∧ w0.heap.size ≤ q ∧ q < b
section
variable {w0 W W' : World} {p q b n c K K' : Nat} {A : Option Addr} {sc : Array Value}
theorem TSt.src (h : TSt w0 p q b n c A sc K W) (hs : SrcOK W' p A n c K') (hg : W.grownBy W' (some p)) : TSt w0 p q b n c A sc K' W' := by
  obtain ⟨h1, h2, h3, h4, h5, h6, h7⟩ := h
  exact ⟨hs, only_moreSQ h2 hg (fun q e => by cases e; exact .inr rfl), (hg.block q h3.lt (fun e => by cases e; omega)).trans h3, (hg.block b h4.lt (fun e => by cases e; omega)).trans h4, h5, h6, h7⟩
theorem TSt.below (h : TSt w0 p q b n c A sc K W) (hb : Below W.heap.size W W') : TSt w0 p q b n c A sc K W' := by
  obtain ⟨h1, h2, h3, h4, h5, h6, h7⟩ := h
  exact ⟨h1.below hb, only_belowSQ h2 hb, h3.below hb h3.lt, h4.below hb h4.lt, h5, h6, h7⟩
theorem TSt.grown {row : Option Nat} (h : TSt w0 p q b n c A sc K W) (hg : W.grownBy W' row) (hr : ∀ k, row = some k → w0.heap.size ≤ k ∧ k ≠ q ∧ k ≠ b) : TSt w0 p q b n c A sc K W' := by
  obtain ⟨h1, h2, h3, h4, h5, h6, h7⟩ := h
  refine ⟨h1.grown hg (fun e => by have := (hr p e).1; omega) (fun k e => by have := (hr k e).1; omega), only_moreSQ h2 hg (fun k e => .inl (hr k e).1), (hg.block q h3.lt (fun e => (hr q e.symm).2.1 rfl)).trans h3, (hg.block b h4.lt (fun e => (hr b e.symm).2.2 rfl)).trans h4, h5, h6, h7⟩
theorem TSt.set (h : TSt w0 p q b n c A sc K W) (j : Nat) (v : Value) : TSt w0 p q b n c A (sc.setIfInBounds j v) K (W.setCell ⟨b, j, none⟩ v) := by
  obtain ⟨h1, h2, h3, h4, h5, h6, h7⟩ := h
  have hg : W.grownBy (W.setCell ⟨b, j, none⟩ v) (some b) := only_setCell (only_refl W _) (.inl rfl) v
  exact ⟨h1.grown hg (fun e => by cases e; omega) (fun k e => by cases e; omega), only_moreSQ h2 hg (fun k e => by cases e; exact .inl (by omega)), h3.far (by show q ≠ b; omega) _, h4.set j v, h5, h6, h7⟩
theorem TSt.more (h : TSt w0 p q b n c A sc K W) (hk : K ≤ K') : TSt w0 p q b n c A sc K' W := ⟨h.1.more hk, h.2⟩
theorem TSt.size (h : TSt w0 p q b n c A sc K W) : w0.heap.size ≤ W.heap.size := h.2.1.size
end
/-- the same, with no box: the result's block alone is written -/
def TGt (w0 : World) (p q n c : Nat) (A : Option Addr) (K : Nat) (W : World) : Prop := SrcOK W p A n c K ∧ w0.grownBy W (some p) ∧ p < w0.heap.size ∧ w0.heap.size ≤ q
theorem TGt.set {w0 W : World} {p q n c K : Nat} {A : Option Addr} (h : TGt w0 p q n c A K W) (j : Nat) (v : Value) : TGt w0 p q n c A K (W.setCell ⟨q, j, none⟩ v) := by
  obtain ⟨h1, h2, h3, h4⟩ := h
  have hg : W.grownBy (W.setCell ⟨q, j, none⟩ v) (some q) := only_setCell (only_refl W _) (.inl rfl) v
  exact ⟨h1.grown hg (fun e => by cases e; omega) (fun k e => by cases e; omega), only_moreSQ h2 hg (fun k e => by cases e; exact .inl h4), h3, h4⟩
theorem tst_row {w0 W : World} {p q b n c K m : Nat} {A : Option Addr} {sc : Array Value} {v : Value} {xs : List Value} (ho : W.ownsRow w0.heap.size 44 8 v m xs) (h : TSt w0 p q b n c A sc K W) : ∀ k, v.ownBlock = some k → w0.heap.size ≤ k ∧ k ≠ q ∧ k ≠ b := fun k hk => by
  refine ⟨(ho.lt k hk).1, ?_, ?_⟩
  · rintro rfl
    exact own_ne ho (Row.ofRw h.2.2.1) (by decide) hk.symm
  · rintro rfl
    exact own_ne ho (Row.ofRw h.2.2.2.1) (by decide) hk.symm
def secsV (L : List SS) : List Value := L.flatMap fun S => S.cells.toList
theorem secsV_snoc (L : List SS) (S : SS) : secsV (L ++ [S]) = secsV L ++ S.cells.toList := by unfold secsV; rw [List.flatMap_append]; simp
theorem secsV_get : ∀ (L : List SS) (i : Nat), i < L.length * 8 → (secsV L).getD i undef = (sAt L (i / 8)).cells.getD (i % 8) undef
  | [], i, h => by simp at h
  | S :: r, i, h => by
    have hl : S.cells.toList.length = 8 := rfl
    unfold secsV
    rw [List.flatMap_cons, List.getD_eq_getElem?_getD]
    by_cases hi : i < 8
    · rw [List.getElem?_append_left (by rw [hl]; exact hi), show i / 8 = 0 by omega, show i % 8 = i by omega]
      show (S.cells.toList[i]?).getD undef = S.cells.getD i undef
      rw [Array.getElem?_toList]
      simp
    · obtain ⟨j, rfl⟩ : ∃ j, i = j + 8 := ⟨i - 8, by omega⟩
      rw [List.getElem?_append_right (by rw [hl]; omega), hl, show j + 8 - 8 = j by omega, ← List.getD_eq_getElem?_getD]
      have ih := secsV_get r j (by rw [List.length_cons] at h; omega)
      unfold secsV at ih
      rw [ih, show (j + 8) / 8 = j / 8 + 1 by omega, show (j + 8) % 8 = j % 8 by omega]
      unfold sAt
      rw [List.getD_cons_succ]
theorem own_ssl {w : World} {B c : Nat} {A : Option Addr} {L : List SS} (h : w.ownsRow B 44 8 (.slice A L.length c) L.length (secsV L)) : SSl w w.heap.size A L := by
  have h1 := own_sl h
  exact h1.congr fun i hi => secsV_get L i hi
theorem infoSSQ : (Tryd.prog.info? 44).map (fun i => (i.zero, i.size, i.bytes)) = some (some (.agg #[.int .i64 0, .int .i64 0, .int .i64 0, .int .i64 0, .string .empty, .bool false, .bool false, .bool false]), 8, 56) := by kernel_rfl
def TrkOut (w w' : World) (p n c K : Nat) (A : Option Addr) (e : Ending) : Prop := ∃ (f g : Int) (L : List SS) (A2 : Option Addr) (c2 : Nat), okT f g L ∧ L.length ≤ 3 ∧ e = .returned (.agg (trkA f g A2 L.length c2)) ∧ w'.ownsRow w.heap.size 44 8 (.slice A2 L.length c2) L.length (secsV L) ∧ SrcOK w' p A n c (K + 2000) ∧ w.grownBy w' (some p)
set_option maxHeartbeats 8000000 in
theorem drawTrack_any {w : World} {p n c K : Nat} {A : Option Addr} (h : SrcOK w p A n c K) (hK : K ≤ 1000) (hn : n ≤ 1048576) :
    Calls Tryd.prog 23 #[.pointer (some ⟨p, 0, none⟩), .int .i64 3] w fun e w' => TrkOut w w' p n c K A e := by
  have hp := h.lt
  obtain ⟨q, hq⟩ : ∃ q, w.heap.size = q := ⟨_, rfl⟩
  obtain ⟨W1, hW1⟩ : ∃ W1, w.alloc (.cells #[.int .i64 0, .int .i64 0, .slice none 0 0] 25) = W1 := ⟨_, rfl⟩
  have hb1 : Below w.heap.size w W1 := by rw [← hW1]; exact (Below.refl _ _).alloc (Nat.le_refl _) _
  have hr1 : Rw W1 q 25 #[.int .i64 0, .int .i64 0, .slice none 0 0] := by rw [← hW1, ← hq]; exact Rw.new _ _ _
  have hz1 : W1.heap.size = q + 1 := by rw [← hW1, ← hq]; simp
  have HP1 := Lib.hid (pick_any 3 (h.below hb1) (by omega) hn (by omega) (by omega))
  have HR1 := Lib.hid hr1
  have HG1 := Lib.hid (only_belowSQ (only_refl w (some p)) hb1)
  have HZ1 := Lib.hid hz1
  have HQ := Lib.hid hq
  have hpq : p < q := by omega
  clear hb1 hr1 hz1 h
  go_enter Tryd.func23, Tryd.ntmps23
  go_upto_region 2 with (go_at_call 43; refine HP1.out.mono ?_; rintro e w1 ⟨v, hv, rfl, hs1, hg1⟩)
  obtain ⟨b, hb⟩ : ∃ b, w1.heap.size = b := ⟨_, rfl⟩
  obtain ⟨f, hf⟩ : ∃ f : Int, (1 : Int) + (v : Int) = f := ⟨_, rfl⟩
  have hf1 : 1 ≤ f ∧ f ≤ 3 := by omega
  rw [hf]
  obtain ⟨W2, hW2⟩ : ∃ W2, w1.alloc (.cells #[.int .i64 f, .int .i64 0, .slice none 0 0] 25) = W2 := ⟨_, rfl⟩
  have hal : Below w1.heap.size w1 W2 := by rw [← hW2]; exact (Below.refl _ _).alloc (Nat.le_refl _) _
  have D2 := Lib.hid (show TSt w p q b n c A #[.int .i64 f, .int .i64 0, .slice none 0 0] (K + 2) W2 from by
    have hq1 : q < w1.heap.size := by have := hg1.size; have := HZ1.out; omega
    have hr1' : Rw w1 q 25 _ := (hg1.block q (by have := HZ1.out; omega) (fun e => by cases e; omega)).trans HR1.out
    exact ⟨hs1.below hal, only_belowSQ (only_moreSQ HG1.out hg1 (fun q e => by cases e; exact .inr rfl)) hal, hr1'.below hal hq1, by rw [← hW2, ← hb]; exact Rw.new _ _ _, by rw [HQ.out]; exact hpq, by rw [HQ.out]; exact Nat.le_refl _, by omega⟩)
  try rw [hW2]
  try rw [hb]
  clear hW2 hb hal hs1 hg1 hf hv HP1 HG1 HR1 HZ1 hW1 hq
  go_upto_region 3 with (go_at_call 43; refine (pick_any 6 D2.out.1 (by omega) hn (by omega) (by omega)).mono ?_; rintro e w3 ⟨v, hv, rfl, hs3, hg3⟩; have d3 := D2.out.src hs3 hg3; have x0 := d3.2.2.2.1.cell 1; have y0 := d3.2.2.2.1.frozen 1; have D3 := Lib.hid d3; clear hs3 hg3 d3)
  obtain ⟨g, hg⟩ : ∃ g : Int, (1 : Int) + (v : Int) = g := ⟨_, rfl⟩
  have hg1 : 1 ≤ g ∧ g ≤ 20 := by omega
  rw [hg]
  have D4 := Lib.hid (show TSt w p q b n c A #[.int .i64 f, .int .i64 g, .slice none 0 0] (K + 4) (w3.setCell ⟨b, 1, none⟩ (.int .i64 g)) from D3.out.set 1 _)
  clear x0 y0 D2 D3 hg hv
  generalize w3.setCell ⟨b, 1, none⟩ (.int .i64 g) = W4 at *
  go_upto_region 4 with (go_at_call 43; refine (pick_any 4 D4.out.1 (by omega) hn (by omega) (by omega)).mono ?_; rintro e w5 ⟨m, hm, rfl, hs5, hg5⟩; have D5 := Lib.hid (D4.out.src hs5 hg5); clear hs5 hg5)
  go_loopw [6] (fun s6 wr => ∃ (j : Nat) (L : List SS) (A2 : Option Addr) (c2 : Nat), j ≤ m ∧ L.length = j ∧ (∀ S ∈ L, S.ok) ∧ s6 = .int .i64 ((m : Int) - (j : Int)) ∧ wr.ownsRow w.heap.size 44 8 (.slice A2 j c2) j (secsV L) ∧ TSt w p q b n c A #[.int .i64 f, .int .i64 g, .slice A2 j c2] (K + 6 + 310 * j) wr) (fun s6 _ => (intOf s6).toNat)
  case atStart => exact ⟨0, [], none, 0, by omega, rfl, fun S hS => (by cases hS), by simp, ⟨rfl, .inl ⟨rfl, rfl⟩⟩, D5.out⟩
  case round =>
    obtain ⟨j, L, A2, c2, hj, hL, hok, rfl, ho, hd⟩ := hrel
    have HL := Lib.hid hL
    have HOK := Lib.hid hok
    have HO := Lib.hid ho
    have HD := Lib.hid hd
    have hzr := hd.size
    clear hL hok ho hd
    by_cases hlt : j < m
    · obtain ⟨m2, hm2⟩ : ∃ m2 : Nat, m - j = m2 + 1 := ⟨m - j - 1, by omega⟩
      have hmi : (m : Int) - (j : Int) = ((m2 + 1 : Nat) : Int) := by omega
      rw [hmi]
      have hm0 : (0 : Int) < ((m2 + 1 : Nat) : Int) := by omega
      have hmb : m2 ≤ 4 := by omega
      have HM := Lib.hid hm2
      clear hm2 hmi
      have HDS := Lib.hid (drawSector_any HD.out.1 (by omega) hn)
      unfold SS.val SS.cells at HDS
      go_upto_region 7 with (go_at_call 44; refine HDS.out.mono ?_; rintro e w6 ⟨S, hS, rfl, hs6, hg6⟩; have D6 := HD.out.src hs6 hg6; have HO6 := Lib.hid (own_srcQ HO.out hg6 hp); have HSO := Lib.hid hS; clear hs6 hg6 hS)
      obtain ⟨bx, hbx⟩ : ∃ bx, w6.heap.size = bx := ⟨_, rfl⟩
      have hal : Below w6.heap.size w6 (w6.alloc (.cells #[.int .i64 S.cy, .int .i64 S.hd, .int .i64 S.no, .int .i64 S.sz, .string S.dt, .bool S.dl, .bool S.bi, .bool S.bd] 44)) := (Below.refl _ _).alloc (Nat.le_refl _) _
      have D7 := Lib.hid (D6.below hal)
      have HO7 := Lib.hid (own_below HO6.out hal)
      have hrx := Rw.new w6 44 #[.int .i64 S.cy, .int .i64 S.hd, .int .i64 S.no, .int .i64 S.sz, .string S.dt, .bool S.dl, .bool S.bi, .bool S.bd]
      clear hal D6
      rw [hbx] at hrx
      try rw [hbx]
      generalize w6.alloc (.cells #[.int .i64 S.cy, .int .i64 S.hd, .int .i64 S.no, .int .i64 S.sz, .string S.dt, .bool S.dl, .bool S.bi, .bool S.bd] 44) = W7 at *
      have x2 := D7.out.2.2.2.1.cell 2
      have c0 := hrx.cell 0
      have c1 := hrx.cell 1
      have c2' := hrx.cell 2
      have c3 := hrx.cell 3
      have c4 := hrx.cell 4
      have c5 := hrx.cell 5
      have c6 := hrx.cell 6
      have c7 := hrx.cell 7
      clear hbx hrx
      go_wp2_with (at_builtin; refine wpList_pushT (.tmp 27) (.tmp 29) 23 w.heap.size 44 (.agg #[.int .i64 0, .int .i64 0, .int .i64 0, .int .i64 0, .string .empty, .bool false, .bool false, .bool false]) [.int .i64 S.cy, .int .i64 S.hd, .int .i64 S.no, .int .i64 S.sz, .string S.dt, .bool S.dl, .bool S.bi, .bool S.bd] 8 56 _ j _ HO7.out rfl rfl Tryd.underlying23 infoSSQ rfl (by omega) rfl rfl rfl rfl (by intro u hu; simp at hu; rcases hu with rfl | rfl | rfl | rfl | rfl | rfl | rfl | rfl <;> rfl) (by omega) (by omega) D7.out.size ?_; intro A6 k6 w8 ho8 hg8; have D8 := Lib.hid (D7.out.grown hg8 (tst_row HO7.out D7.out)); have HO8 := Lib.hid ho8; have u2 := D8.out.2.2.2.1.cell 2; have v2 := D8.out.2.2.2.1.frozen 2; clear ho8 hg8)
      have D9 := Lib.hid (show TSt w p q b n c A #[.int .i64 f, .int .i64 g, .slice (some A6) (j + 1) k6] _ (w8.setCell ⟨b, 2, none⟩ (.slice (some A6) (j + 1) k6)) from D8.out.set 2 _)
      refine ⟨⟨j + 1, L ++ [S], some A6, k6, by omega, by rw [List.length_append, HL.out]; rfl, fun T hT => ?_, congrArg (Value.int .i64) (by have := HM.out; omega), ?_, ?_⟩, by simp [intOf] <;> omega⟩
      · rcases List.mem_append.1 hT with h1 | h1
        · exact HOK.out T h1
        · rw [List.mem_singleton] at h1
          rw [h1]
          exact HSO.out
      · rw [secsV_snoc]
        exact World.ownsRow.kept HO8.out (only_setCell (g := b) (only_refl w8 _) (.inl rfl) _) (.inr (fun e => (tst_row HO8.out D8.out b e).2.2 rfl))
      · rw [show K + 6 + 310 * (j + 1) = K + 6 + 310 * j + 310 by omega]
        exact D9.out.more (by omega)
    · obtain rfl : j = m := by omega
      have hgz : (j : Int) - (j : Int) = 0 := by omega
      rw [hgz]
      clear hgz
      have x0 := HD.out.2.2.2.1.cell 0
      have x1 := HD.out.2.2.2.1.cell 1
      have x2 := HD.out.2.2.2.1.cell 2
      have z0 := HD.out.2.2.1.cell 0
      have z1 := HD.out.2.2.1.cell 1
      have z2 := HD.out.2.2.1.cell 2
      have f0 := HD.out.2.2.1.frozen 0
      have f1 := HD.out.2.2.1.frozen 1
      have f2 := HD.out.2.2.1.frozen 2
      have hz0 := HD.out.2.2.1
      have hsg : TGt w p q n c A (K + 2000) wr := ⟨HD.out.1.more (by omega), HD.out.2.1, by omega, by have := HQ.out; omega⟩
      have HR9 := Lib.hid (((hz0.set 0 (.int .i64 f)).set 1 (.int .i64 g)).set 2 (.slice A2 j c2))
      have SG9 := Lib.hid (((hsg.set 0 (.int .i64 f)).set 1 (.int .i64 g)).set 2 (.slice A2 j c2))
      have hne : ∀ k, (Value.slice A2 j c2).ownBlock = some k → k ≠ q := fun k hk => (tst_row HO.out HD.out k hk).2.1
      have HO9 := Lib.hid (World.ownsRow.kept HO.out (only_setCell (g := q) (p := ⟨q, 2, none⟩) (only_setCell (g := q) (p := ⟨q, 1, none⟩) (only_setCell (g := q) (p := ⟨q, 0, none⟩) (only_refl wr _) (.inl rfl) (.int .i64 f)) (.inl rfl) (.int .i64 g)) (.inl rfl) (.slice A2 j c2)) (.inr (fun e => hne q e rfl)))
      clear hz0 hsg hne
      go_wp2_with fail
      have r0 := HR9.out.cell 0
      have r1 := HR9.out.cell 1
      have r2 := HR9.out.cell 2
      have hl := HL.out
      subst hl
      exact bodyPost_ret (v := .agg #[.int .i64 f, .int .i64 g, .slice A2 L.length c2]) (by simp [results, Tryd.results23, go_sem, r0, r1, r2]) rfl ⟨f, g, L, A2, c2, ⟨hf1.1, hf1.2, hg1.1, hg1.2, by omega, HOK.out⟩, by omega, rfl, HO9.out, SG9.out.1, SG9.out.2.1⟩
theorem l00FromT_any (A : Option Addr) (n c : Nat) (w : World) : Calls Tryd.prog 22 #[.slice A n c] w fun e w' => e = .returned (.pointer (some ⟨w.heap.size, 0, none⟩)) ∧ w' = w.alloc (.cells #[.slice A n c, .int .i64 0, .int .u64 0] 79) := by
  go_enter Tryd.func22, Tryd.ntmps22
  go_wp2
  go_ret
  exact ⟨rfl, rfl⟩
def E8Out (w w' : World) (e : Ending) : Prop := ∃ (f g : Int) (L : List SS) (A2 : Option Addr) (c2 : Nat), okT f g L ∧ L.length ≤ 3 ∧ e = .returned (.agg (trkA f g A2 L.length c2)) ∧ SSl w' w'.heap.size A2 L ∧ Below w.heap.size w w'
set_option maxHeartbeats 4000000 in
theorem e8Track_any (A : Option Addr) (n c : Nat) (u : Nat → UInt8) (w : World) (hn : n ≤ 1048576) (hs : Sl w w.heap.size A n (fun i => .int .u8 ((u i).toNat : Int))) :
    Calls Tryd.prog 6 #[.slice A n c] w fun e w' => E8Out w w' e := by
  obtain ⟨q, hq⟩ : ∃ q, w.heap.size = q := ⟨_, rfl⟩
  obtain ⟨W1, hW1⟩ : ∃ W1, w.alloc (.cells #[.int .i64 0, .int .i64 0, .slice none 0 0] 25) = W1 := ⟨_, rfl⟩
  have hb1 : Below w.heap.size w W1 := by rw [← hW1]; exact (Below.refl _ _).alloc (Nat.le_refl _) _
  have hr1 : Rw W1 q 25 #[.int .i64 0, .int .i64 0, .slice none 0 0] := by rw [← hW1, ← hq]; exact Rw.new _ _ _
  have hz1 : W1.heap.size = q + 1 := by rw [← hW1, ← hq]; simp
  have hs1 := hs.below hb1
  have HS1 := Lib.hid hs1
  have HB1 := Lib.hid hb1
  have HR1 := Lib.hid hr1
  have HZ1 := Lib.hid hz1
  have HF := Lib.hid (l00FromT_any A n c W1)
  have HQ := Lib.hid hq
  have hal : Below W1.heap.size W1 (W1.alloc (.cells #[.slice A n c, .int .i64 0, .int .u64 0] 79)) := (Below.refl _ _).alloc (Nat.le_refl _) _
  have hsrc : SrcOK (W1.alloc (.cells #[.slice A n c, .int .i64 0, .int .u64 0] 79)) (q + 1) A n c 0 := by
    refine ⟨⟨0, 0, by omega, by omega, by omega, by rw [← hz1]; exact Rw.new _ _ _⟩, u, ?_⟩
    have h2 := hs1.below (hal.mono (by omega))
    exact h2.more (by omega)
  have HDT := Lib.hid (drawTrack_any hsrc (by omega) hn)
  have HAL := Lib.hid hal
  clear hb1 hr1 hz1 hs hs1 hal hsrc
  rw [show W1.heap.size = q + 1 from HZ1.out] at HF
  go_enter Tryd.func6, Tryd.ntmps6
  go_upto_region 2 with (go_at_call 22; refine HF.out.mono ?_; rintro e w' ⟨rfl, hw'⟩; rw [hw']; clear hw' w')
  clear hW1 hq
  go_wp2_with (go_at_call 23; refine HDT.out.mono ?_; rintro e w3 ⟨f, g, L, A2, c2, hok, h3, rfl, ho, hs3, hg3⟩; unfold trkA; have hr3 := Lib.hid (show Rw w3 q 25 #[.int .i64 0, .int .i64 0, .slice none 0 0] from (hg3.block q (by have := HZ1.out; rw [World.size_alloc]; omega) (fun e => by injection e; omega)).trans (HR1.out.alloc _)); have z0 := hr3.out.cell 0; have z1 := hr3.out.cell 1; have z2 := hr3.out.cell 2; have f0 := hr3.out.frozen 0; have f1 := hr3.out.frozen 1; have f2 := hr3.out.frozen 2; have HO3 := Lib.hid ho; have HG3 := Lib.hid hg3; have HOK3 := Lib.hid hok; clear ho hg3 hok hs3)
  have HR9 := Lib.hid (((hr3.out.set 0 (.int .i64 f)).set 1 (.int .i64 g)).set 2 (.slice A2 L.length c2))
  have hbq : (W1.alloc (.cells #[.slice A n c, .int .i64 0, .int .u64 0] 79)).heap.size = q + 2 := by rw [World.size_alloc, HZ1.out]
  have HO9 := World.ownsRow.kept HO3.out (only_setCell (g := q) (p := ⟨q, 2, none⟩) (only_setCell (g := q) (p := ⟨q, 1, none⟩) (only_setCell (g := q) (p := ⟨q, 0, none⟩) (only_refl w3 _) (.inl rfl) (.int .i64 f)) (.inl rfl) (.int .i64 g)) (.inl rfl) (.slice A2 L.length c2)) (.inr (fun e => by have h1 := (HO3.out.lt q e).1; rw [hbq] at h1; omega))
  have HS9 := Lib.hid (own_ssl HO9)
  have hq3 : q ≤ w3.heap.size := by have := HG3.out.size; rw [hbq] at this; omega
  have hB3 : Below q (W1.alloc (.cells #[.slice A n c, .int .i64 0, .int .u64 0] 79)) w3 := below_only HG3.out (by omega) (by rw [hbq]; omega)
  have hB1 : Below q w W1 := HQ.out ▸ HB1.out
  have HB9 := Lib.hid ((((hB1.trans (HAL.out.mono (by have := HZ1.out; omega))).trans hB3).setCell (p := ⟨q, 0, none⟩) (Nat.le_refl _) (.int .i64 f)).setCell (p := ⟨q, 1, none⟩) (Nat.le_refl _) (.int .i64 g) |>.setCell (p := ⟨q, 2, none⟩) (Nat.le_refl _) (.slice A2 L.length c2))
  have r0 := HR9.out.cell 0
  have r1 := HR9.out.cell 1
  have r2 := HR9.out.cell 2
  exact bodyPost_ret (v := .agg #[.int .i64 f, .int .i64 g, .slice A2 L.length c2]) (by simp [results, Tryd.results6, go_sem, r0, r1, r2]) rfl ⟨f, g, L, A2, c2, HOK3.out, h3, rfl, HS9.out, by rw [HQ.out]; exact HB9.out⟩
end Go.Proofs.YtabmdbhbbmnkdaaDoor
