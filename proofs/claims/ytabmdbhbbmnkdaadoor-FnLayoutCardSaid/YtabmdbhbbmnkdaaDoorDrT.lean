/-
  The reference's source of choices: a track's description.
-/
import Derived.Test.YtabmdbhbbmnkdaaDoorDrS
import Derived.Test.YtabmdbhbbmnkdaaDoorXmPush
import Derived.Test.YtabmdbhbbmnkdaaDoorAppR
import Derived.Test.YtabmdbhbbmnkdaaDoorBsV
import Derived.Deep.MidRow
namespace Go.Proofs.YtabmdbhbbmnkdaaDoor
open Go Go.ChangeShapes Go.WideShapes Go.ChangeAt Go.RowKit Go.Joins lib
set_option linter.unusedVariables false
set_option linter.unusedSimpArgs false
set_option maxRecDepth 100000
theorem only_moreSQ {w wr w' : World} {mb : Nat} {row : Option Nat} (h : w.grownBy wr (some mb)) (hb : wr.grownBy w' row) (hr : ∀ q, row = some q → w.heap.size ≤ q ∨ q = mb) : w.grownBy w' (some mb) :=
  ⟨hb.os.trans h.os, hb.tape.trans h.tape, hb.output.trans h.output, Nat.le_trans h.size hb.size, fun i hi hne => (hb.block i (Nat.lt_of_lt_of_le hi h.size) (fun e => by
    rcases hr i e.symm with h1 | h1
    · omega
    · exact hne (by rw [h1]))).trans (h.block i hi hne)⟩
theorem only_belowSQ {w wr w' : World} {mb : Nat} (h : w.grownBy wr (some mb)) (hb : Below wr.heap.size wr w') : w.grownBy w' (some mb) := only_moreSQ h (only_below hb (Nat.le_refl _) none) (fun q e => by cases e)
theorem own_srcQ {w w' : World} {B e k n p : Nat} {v : Value} {xs : List Value} (h : w.ownsRow B e k v n xs) (hg : w.grownBy w' (some p)) (hp : p < B) : w'.ownsRow B e k v n xs := h.kept hg (by
  cases hv : v.ownBlock with
  | none => exact .inl rfl
  | some q =>
    have := (h.lt q hv).1
    exact .inr (by simp; omega))
def slLenQ : Value → Nat
  | .slice _ n _ => n
  | _ => 0
theorem u8wQ {v : Nat} (h : v < 256) : IntKind.u8.wrap (v : Int) = (v : Int) := by rw [IntKind.wrap_u8]; omega
theorem u8_wrapQ (x : Int) : ∃ y : Nat, y < 256 ∧ IntKind.u8.wrap x = (y : Int) := by
  rw [IntKind.wrap_u8]
  exact ⟨(x % 256).toNat, by omega, by omega⟩
theorem infoU8Q : (Tryd.prog.info? 5).map (fun i => (i.zero, i.size, i.bytes)) = some (some (.int .u8 0), 1, 1) := by kernel_rfl
def byVQ (us : List Nat) : List Value := us.map fun (y : Nat) => Value.int .u8 (y : Int)
theorem sl_litQ {w : World} {e m : Nat} {f : Nat → Value} (cs : Array Value) (hf : ∀ i, i < m → cs[i]? = some (f i)) : Sl (w.alloc (.cells cs e)) (w.alloc (.cells cs e)).heap.size (some ⟨w.heap.size, 0, none⟩) m f := (Rw.new w e cs).sl hf
theorem run_byVQ {W : World} {B k c : Nat} {A : Option Addr} {us : List Nat} (hl : us.length = k) (hu : ∀ y, y ∈ us → y < 256) (ho : W.ownsRow B 5 1 (.slice A k c) k (byVQ us)) : ∃ x : ByteArray, x.size = k ∧ (convert 22 9 (.slice A k c)).run Tryd.prog W = .ok (.string x) W := by
  have hs : Sl W W.heap.size A k (fun i => .int .u8 (((UInt8.ofNat (us.getD i 0)).toNat : Nat) : Int)) := by
    have h1 := own_sl ho
    rw [Nat.mul_one] at h1
    refine h1.congr fun i hi => ?_
    unfold byVQ
    have hi2 : i < us.length := by omega
    rw [List.getD_eq_getElem?_getD, List.getD_eq_getElem?_getD, List.getElem?_map, List.getElem?_eq_getElem hi2]
    have := hu _ (List.getElem_mem hi2)
    simp only [Option.map_some, Option.getD_some]
    congr 1
    rw [UInt8.toNat_ofNat']
    omega
  refine ⟨bstr k fun i => UInt8.ofNat (us.getD i 0), by simp [bstr, ByteArray.size], ?_⟩
  exact run_bstr (P := Tryd.prog) (w := W) (B := W.heap.size) 22 9 5 Tryd.underlying22 Tryd.underlying5 Tryd.underlying9 (u := fun i => UInt8.ofNat (us.getD i 0)) hs (fun hA => by
    rcases Nat.eq_zero_or_pos k with h0 | h0
    · exact h0
    · obtain ⟨b, o, hA2, _⟩ := hs 0 h0
      rw [hA] at hA2
      cases hA2)
/-- what stands while a sector is drawn: the source, the result's block q, the sector's box b -/
def DSt (w0 : World) (p q b n c : Nat) (A : Option Addr) (sc : Array Value) (K : Nat) (W : World) : Prop :=
  SrcOK W p A n c K ∧ w0.grownBy W (some p) ∧ Rw W q 44 #[.int .i64 0, .int .i64 0, .int .i64 0, .int .i64 0, .string ⟨#[]⟩, .bool false, .bool false, .bool false] ∧ Rw W b 44 sc ∧ p < w0.heap.size ∧ w0.heap.size ≤ q ∧ q < b
section
variable {w0 W W' : World} {p q b n c K K' : Nat} {A : Option Addr} {sc : Array Value}
theorem DSt.src (h : DSt w0 p q b n c A sc K W) (hs : SrcOK W' p A n c K') (hg : W.grownBy W' (some p)) : DSt w0 p q b n c A sc K' W' := by
  obtain ⟨h1, h2, h3, h4, h5, h6, h7⟩ := h
  exact ⟨hs, only_moreSQ h2 hg (fun q e => by cases e; exact .inr rfl), (hg.block q h3.lt (fun e => by cases e; omega)).trans h3, (hg.block b h4.lt (fun e => by cases e; omega)).trans h4, h5, h6, h7⟩
theorem DSt.below (h : DSt w0 p q b n c A sc K W) (hb : Below W.heap.size W W') : DSt w0 p q b n c A sc K W' := by
  obtain ⟨h1, h2, h3, h4, h5, h6, h7⟩ := h
  exact ⟨h1.below hb, only_belowSQ h2 hb, h3.below hb h3.lt, h4.below hb h4.lt, h5, h6, h7⟩
theorem DSt.grown {row : Option Nat} (h : DSt w0 p q b n c A sc K W) (hg : W.grownBy W' row) (hr : ∀ k, row = some k → w0.heap.size ≤ k ∧ k ≠ q ∧ k ≠ b) : DSt w0 p q b n c A sc K W' := by
  obtain ⟨h1, h2, h3, h4, h5, h6, h7⟩ := h
  refine ⟨h1.grown hg (fun e => by have := (hr p e).1; omega) (fun k e => by have := (hr k e).1; omega), only_moreSQ h2 hg (fun k e => .inl (hr k e).1), (hg.block q h3.lt (fun e => (hr q e.symm).2.1 rfl)).trans h3, (hg.block b h4.lt (fun e => (hr b e.symm).2.2 rfl)).trans h4, h5, h6, h7⟩
theorem DSt.set (h : DSt w0 p q b n c A sc K W) (j : Nat) (v : Value) : DSt w0 p q b n c A (sc.setIfInBounds j v) K (W.setCell ⟨b, j, none⟩ v) := by
  obtain ⟨h1, h2, h3, h4, h5, h6, h7⟩ := h
  have hg : W.grownBy (W.setCell ⟨b, j, none⟩ v) (some b) := only_setCell (only_refl W _) (.inl rfl) v
  exact ⟨h1.grown hg (fun e => by cases e; omega) (fun k e => by cases e; omega), only_moreSQ h2 hg (fun k e => by cases e; exact .inl (by omega)), h3.far (by show q ≠ b; omega) _, h4.set j v, h5, h6, h7⟩
theorem DSt.more (h : DSt w0 p q b n c A sc K W) (hk : K ≤ K') : DSt w0 p q b n c A sc K' W := ⟨h.1.more hk, h.2⟩
theorem DSt.size (h : DSt w0 p q b n c A sc K W) : w0.heap.size ≤ W.heap.size := h.2.1.size
end
/-- the same, with no box: the result's block alone is written -/
def SGt (w0 : World) (p q n c : Nat) (A : Option Addr) (K : Nat) (W : World) : Prop := SrcOK W p A n c K ∧ w0.grownBy W (some p) ∧ p < w0.heap.size ∧ w0.heap.size ≤ q
theorem SGt.set {w0 W : World} {p q n c K : Nat} {A : Option Addr} (h : SGt w0 p q n c A K W) (j : Nat) (v : Value) : SGt w0 p q n c A K (W.setCell ⟨q, j, none⟩ v) := by
  obtain ⟨h1, h2, h3, h4⟩ := h
  have hg : W.grownBy (W.setCell ⟨q, j, none⟩ v) (some q) := only_setCell (only_refl W _) (.inl rfl) v
  exact ⟨h1.grown hg (fun e => by cases e; omega) (fun k e => by cases e; omega), only_moreSQ h2 hg (fun k e => by cases e; exact .inl h4), h3, h4⟩
theorem dst_row {w0 W : World} {p q b n c K m : Nat} {A : Option Addr} {sc : Array Value} {v : Value} {xs : List Value} (ho : W.ownsRow w0.heap.size 5 1 v m xs) (h : DSt w0 p q b n c A sc K W) : ∀ k, v.ownBlock = some k → w0.heap.size ≤ k ∧ k ≠ q ∧ k ≠ b := fun k hk => by
  refine ⟨(ho.lt k hk).1, ?_, ?_⟩
  · rintro rfl
    exact own_ne ho (Row.ofRw h.2.2.1) (by decide) hk.symm
  · rintro rfl
    exact own_ne ho (Row.ofRw h.2.2.2.1) (by decide) hk.symm
set_option maxHeartbeats 8000000 in
theorem drawSector_any {w : World} {p n c K : Nat} {A : Option Addr} (h : SrcOK w p A n c K) (hK : K ≤ 100000) (hn : n ≤ 1048576) :
    Calls Tryd.prog 44 #[.pointer (some ⟨p, 0, none⟩)] w fun e w' => ∃ S : SS, S.ok ∧ e = .returned S.val ∧ SrcOK w' p A n c (K + 300) ∧ w.grownBy w' (some p) := by
  have hp := h.lt
  obtain ⟨q, hq⟩ : ∃ q, w.heap.size = q := ⟨_, rfl⟩
  obtain ⟨W1, hW1⟩ : ∃ W1, (w.alloc (.cells #[.int .i64 0, .int .i64 0, .int .i64 0, .int .i64 0, .string ⟨#[]⟩, .bool false, .bool false, .bool false] 44)).alloc (.cells #[.int .i64 0, .int .i64 0, .int .i64 1, .int .i64 2] 2) = W1 := ⟨_, rfl⟩
  have hb1 : Below w.heap.size w W1 := by rw [← hW1]; exact ((Below.refl _ _).alloc (Nat.le_refl _) _).alloc (by simp) _
  have hr1 : Rw W1 q 44 #[.int .i64 0, .int .i64 0, .int .i64 0, .int .i64 0, .string ⟨#[]⟩, .bool false, .bool false, .bool false] := by rw [← hW1, ← hq]; exact (Rw.new _ _ _).alloc _
  have hz1 : W1.heap.size = q + 2 := by rw [← hW1, ← hq]; simp
  obtain ⟨g, HGV, hsl⟩ : ∃ g : Nat → Int, Hid (∀ v, v < 4 → g v = 0 ∨ g v = 1 ∨ g v = 2) ∧ Sl W1 W1.heap.size (some ⟨q + 1, 0, none⟩) 4 (fun i => .int .i64 (g i)) := by
    refine ⟨fun i => ([0, 0, 1, 2] : List Int).getD i 0, Lib.hid (fun v hv => ?_), ?_⟩
    · have : v = 0 ∨ v = 1 ∨ v = 2 ∨ v = 3 := by omega
      rcases this with rfl | rfl | rfl | rfl
      · exact .inl rfl
      · exact .inl rfl
      · exact .inr (.inl rfl)
      · exact .inr (.inr rfl)
    · have := sl_litQ (w := w.alloc (.cells #[.int .i64 0, .int .i64 0, .int .i64 0, .int .i64 0, .string ⟨#[]⟩, .bool false, .bool false, .bool false] 44)) (e := 2) (m := 4) (f := fun i => .int .i64 (([0, 0, 1, 2] : List Int).getD i 0)) #[.int .i64 0, .int .i64 0, .int .i64 1, .int .i64 2] (fun i hi => by
        have : i = 0 ∨ i = 1 ∨ i = 2 ∨ i = 3 := by omega
        rcases this with rfl | rfl | rfl | rfl <;> rfl)
      rw [hW1, World.size_alloc, hq] at this
      exact this
  have HAM := Lib.hid (show Calls Tryd.prog 79 #[.pointer (some ⟨p, 0, none⟩), .slice (some ⟨q + 1, 0, none⟩) 4 4] W1 fun e w' => ∃ v : Nat, v < 4 ∧ e = .returned (.int .i64 (g v)) ∧ SrcOK w' p A n c (K + 2) ∧ W1.grownBy w' (some p) from among_any (w := W1) (some ⟨q + 1, 0, none⟩) 4 4 _ (h.below hb1) (by omega) hn (by omega) (by omega) (fun b o e => by cases e; omega) hsl)
  have HR1 := Lib.hid hr1
  have HG1 := Lib.hid (only_belowSQ (only_refl w (some p)) hb1)
  have HZ1 := Lib.hid hz1
  have HQ := Lib.hid hq
  have hpq : p < q := by omega
  clear hb1 hr1 hz1 hsl h
  go_enter Tryd.func44, Tryd.ntmps44
  go_upto_region 2 with (go_at_call 79; refine HAM.out.mono ?_; rintro e w1 ⟨v, hv, rfl, hs1, hg1⟩)
  -- the sector's box
  obtain ⟨z, hz⟩ : ∃ z : Int, g v = z := ⟨_, rfl⟩
  have HZ := Lib.hid (show z = 0 ∨ z = 1 ∨ z = 2 by rw [← hz]; exact HGV.out v hv)
  rw [hz]
  obtain ⟨b, hb⟩ : ∃ b, w1.heap.size = b := ⟨_, rfl⟩
  obtain ⟨W2, hW2⟩ : ∃ W2, w1.alloc (.cells #[.int .i64 0, .int .i64 0, .int .i64 0, .int .i64 z, .string ⟨#[]⟩, .bool false, .bool false, .bool false] 44) = W2 := ⟨_, rfl⟩
  have hal : Below w1.heap.size w1 W2 := by rw [← hW2]; exact (Below.refl _ _).alloc (Nat.le_refl _) _
  have D2 := Lib.hid (show DSt w p q b n c A #[.int .i64 0, .int .i64 0, .int .i64 0, .int .i64 z, .string ⟨#[]⟩, .bool false, .bool false, .bool false] (K + 2) W2 from by
    have hq1 : q < w1.heap.size := by have := hg1.size; have := HZ1.out; omega
    have hr1' : Rw w1 q 44 _ := (hg1.block q (by have := HZ1.out; omega) (fun e => by cases e; omega)).trans HR1.out
    exact ⟨hs1.below hal, only_belowSQ (only_moreSQ HG1.out hg1 (fun q e => by cases e; exact .inr rfl)) hal, hr1'.below hal hq1, by rw [← hW2, ← hb]; exact Rw.new _ _ _, by rw [HQ.out]; exact hpq, by rw [HQ.out]; exact Nat.le_refl _, by omega⟩)
  try rw [hW2]
  try rw [hb]
  clear hW2 hb hal hs1 hg1 hz hv HAM HG1 HR1 HZ1 hW1 hq
  go_upto_region 3 with (go_at_call 43; refine (pick_any 8 D2.out.1 (by omega) hn (by omega) (by omega)).mono ?_; rintro e w3 ⟨a1, ha1, rfl, hs3, hg3⟩; have d3 := D2.out.src hs3 hg3; have x0 := d3.2.2.2.1.cell 0; have y0 := d3.2.2.2.1.frozen 0; have DN := Lib.hid (show DSt w p q b n c A #[.int .i64 (a1 : Int), .int .i64 0, .int .i64 0, .int .i64 z, .string ⟨#[]⟩, .bool false, .bool false, .bool false] (K + 4) (w3.setCell ⟨b, 0, none⟩ (.int .i64 (a1 : Int))) from d3.set 0 _); clear hs3 hg3 d3)
  clear x0 y0
  generalize w3.setCell ⟨b, 0, none⟩ (.int .i64 (a1 : Int)) = W10 at *
  have D10 := DN
  clear DN
  go_upto_region 4 with (go_at_call 43; refine (pick_any 2 D10.out.1 (by omega) hn (by omega) (by omega)).mono ?_; rintro e w3 ⟨d1, hd1, rfl, hs3, hg3⟩; have d3 := D10.out.src hs3 hg3; have x0 := d3.2.2.2.1.cell 1; have y0 := d3.2.2.2.1.frozen 1; have DN := Lib.hid (show DSt w p q b n c A #[.int .i64 (a1 : Int), .int .i64 (d1 : Int), .int .i64 0, .int .i64 z, .string ⟨#[]⟩, .bool false, .bool false, .bool false] (K + 6) (w3.setCell ⟨b, 1, none⟩ (.int .i64 (d1 : Int))) from d3.set 1 _); clear hs3 hg3 d3)
  clear x0 y0
  generalize w3.setCell ⟨b, 1, none⟩ (.int .i64 (d1 : Int)) = W11 at *
  have D11 := DN
  clear DN
  go_upto_region 5 with (go_at_call 43; refine (pick_any 9 D11.out.1 (by omega) hn (by omega) (by omega)).mono ?_; rintro e w3 ⟨e1, he1, rfl, hs3, hg3⟩; have d3 := D11.out.src hs3 hg3; have x0 := d3.2.2.2.1.cell 2; have y0 := d3.2.2.2.1.frozen 2; have DN := Lib.hid (show DSt w p q b n c A #[.int .i64 (a1 : Int), .int .i64 (d1 : Int), .int .i64 (e1 : Int), .int .i64 z, .string ⟨#[]⟩, .bool false, .bool false, .bool false] (K + 8) (w3.setCell ⟨b, 2, none⟩ (.int .i64 (e1 : Int))) from d3.set 2 _); clear hs3 hg3 d3)
  clear x0 y0
  generalize w3.setCell ⟨b, 2, none⟩ (.int .i64 (e1 : Int)) = W12 at *
  have D12 := DN
  clear DN
  go_upto_region 6 with fail
  have HO := Lib.hid (own_nilE W12 5 1 w.heap.size D12.out.size)
  have D13 := Lib.hid (D12.out.below ((Below.refl _ _).alloc (Nat.le_refl _) (.cells #[] 5)))
  clear D2 D10 D11 D12
  generalize W12.alloc (.cells #[] 5) = W13 at *
  have x3 := D13.out.2.2.2.1.cell 3
  obtain ⟨m, hm, hm32⟩ : ∃ m : Nat, Hid (m = 8 * 2 ^ z.toNat) ∧ m ≤ 32 := by
    rcases HZ.out with rfl | rfl | rfl
    · exact ⟨8, Lib.hid rfl, by omega⟩
    · exact ⟨16, Lib.hid rfl, by omega⟩
    · exact ⟨32, Lib.hid rfl, by omega⟩
  go_cut [5] (fun s5 wx => s5 = .int .i64 (m : Int) ∧ wx = W13)
  case first =>
    have hm2 := hm.out
    rcases HZ.out with rfl | rfl | rfl
    · obtain rfl : m = 8 := hm2
      go_wp2_with fail
      go_meet
      exact ⟨rfl, rfl⟩
    · obtain rfl : m = 16 := hm2
      go_wp2_with fail
      go_meet
      exact ⟨rfl, rfl⟩
    · obtain rfl : m = 32 := hm2
      go_wp2_with fail
      go_meet
      exact ⟨rfl, rfl⟩
  case rest =>
    obtain ⟨rfl, hwc⟩ := hcut
    subst hwc
    clear x3
    obtain ⟨g6, HG6, HSL6⟩ : ∃ g6 : Nat → Int, Hid (∀ v, v < 6 → ∃ y : Nat, y < 256 ∧ g6 v = (y : Int)) ∧ Hid (∀ W : World, Sl (W.alloc (.cells #[.int .i64 0, .int .i64 255, .int .i64 65, .int .i64 161, .int .i64 1, .int .i64 78] 2)) (W.alloc (.cells #[.int .i64 0, .int .i64 255, .int .i64 65, .int .i64 161, .int .i64 1, .int .i64 78] 2)).heap.size (some ⟨W.heap.size, 0, none⟩) 6 (fun i => .int .i64 (g6 i))) := by
      refine ⟨fun i => ([0, 255, 65, 161, 1, 78] : List Int).getD i 0, Lib.hid (fun v hv => ?_), Lib.hid (fun W => sl_litQ _ (fun i hi => ?_))⟩
      · have : v = 0 ∨ v = 1 ∨ v = 2 ∨ v = 3 ∨ v = 4 ∨ v = 5 := by omega
        rcases this with rfl | rfl | rfl | rfl | rfl | rfl
        · exact ⟨0, by omega, rfl⟩
        · exact ⟨255, by omega, rfl⟩
        · exact ⟨65, by omega, rfl⟩
        · exact ⟨161, by omega, rfl⟩
        · exact ⟨1, by omega, rfl⟩
        · exact ⟨78, by omega, rfl⟩
      · have : i = 0 ∨ i = 1 ∨ i = 2 ∨ i = 3 ∨ i = 4 ∨ i = 5 := by omega
        rcases this with rfl | rfl | rfl | rfl | rfl | rfl <;> rfl
    obtain ⟨sc, hsc⟩ : ∃ sc : Array Value, #[.int .i64 (a1 : Int), .int .i64 (d1 : Int), .int .i64 (e1 : Int), .int .i64 z, .string ⟨#[]⟩, .bool false, .bool false, .bool false] = sc := ⟨_, rfl⟩
    rw [hsc] at D13
    have HSC := Lib.hid hsc
    clear hsc
    go_wp2_with fail
    go_loopw [4, 5] (fun s4 s5 wr => ∃ (k : Nat) (us : List Nat) (A2 : Option Addr) (c2 : Nat), k ≤ m ∧ us.length = k ∧ (∀ y, y ∈ us → y < 256) ∧ s5 = .int .i64 ((m : Int) - (k : Int)) ∧ s4 = .slice A2 k c2 ∧ wr.ownsRow w.heap.size 5 1 (.slice A2 k c2) k (byVQ us) ∧ DSt w p q b n c A sc (K + 8 + 2 * k) wr) (fun _ s5 _ => (intOf s5).toNat)
    case atStart => exact ⟨0, [], _, _, by omega, rfl, fun y hy => (by cases hy), by simp, rfl, HO.out, D13.out⟩
    case round =>
      obtain ⟨k, us, A2, c2, hk, hul, hu, rfl, rfl, ho, hd⟩ := hrel
      have HUL := Lib.hid hul
      have HU := Lib.hid hu
      have HOI := Lib.hid ho
      have HD := Lib.hid hd
      have hzr := hd.size
      clear hul hu ho hd
      by_cases hlt : k < m
      · obtain ⟨m2, hm2⟩ : ∃ m2 : Nat, m - k = m2 + 1 := ⟨m - k - 1, by omega⟩
        have hmi : (m : Int) - (k : Int) = ((m2 + 1 : Nat) : Int) := by omega
        rw [hmi]
        have hm0 : (0 : Int) < ((m2 + 1 : Nat) : Int) := by omega
        have hmb : m2 ≤ 40 := by omega
        have HM := Lib.hid hm2
        clear hm2 hmi
        have hal : Below wr.heap.size wr (wr.alloc (.cells #[.int .i64 0, .int .i64 255, .int .i64 65, .int .i64 161, .int .i64 1, .int .i64 78] 2)) := (Below.refl _ _).alloc (Nat.le_refl _) _
        have D3 := Lib.hid (HD.out.below hal)
        have HO3 := Lib.hid (own_below HOI.out hal)
        have HAM2 := Lib.hid (show Calls Tryd.prog 79 #[.pointer (some ⟨p, 0, none⟩), .slice (some ⟨wr.heap.size, 0, none⟩) 6 6] (wr.alloc (.cells #[.int .i64 0, .int .i64 255, .int .i64 65, .int .i64 161, .int .i64 1, .int .i64 78] 2)) fun e w' => ∃ v : Nat, v < 6 ∧ e = .returned (.int .i64 (g6 v)) ∧ SrcOK w' p A n c (K + 8 + 2 * k + 2) ∧ (wr.alloc (.cells #[.int .i64 0, .int .i64 255, .int .i64 65, .int .i64 161, .int .i64 1, .int .i64 78] 2)).grownBy w' (some p) from among_any (some ⟨wr.heap.size, 0, none⟩) 6 6 _ D3.out.1 (by omega) hn (by omega) (by omega) (fun b o e => by cases e; omega) (HSL6.out wr))
        clear hal
        go_wp2_with (first
          | (go_at_call 79; refine HAM2.out.mono ?_; rintro e w3 ⟨v, hv, rfl, hs3, hg3⟩; obtain ⟨y, hy, hgy⟩ := HG6.out v hv; rw [hgy]; clear hgy; have hwy := u8wQ hy; have hwy' : (y : Int) % 256 = (y : Int) := (by omega); have D4 := Lib.hid (D3.out.src hs3 hg3); have HO4 := Lib.hid (own_srcQ HO3.out hg3 hp); clear hs3 hg3)
          | (at_builtin; refine wpList_pushT (.tmp 29) (.tmp 34) 22 w.heap.size 5 (.int .u8 0) [.int .u8 (y : Int)] 1 1 _ k _ HO4.out rfl rfl Tryd.underlying22 infoU8Q rfl (by omega) rfl rfl rfl rfl (by intro u hu; simp at hu; subst hu; rfl) (by omega) (by omega) D4.out.size ?_; intro A6 c6 w6 ho6 hg6))
        refine ⟨⟨k + 1, us ++ [y], some A6, c6, by omega, by rw [List.length_append, HUL.out]; rfl, fun r hr => ?_, congrArg (Value.int .i64) (by have := HM.out; omega), rfl, ?_, ?_⟩, by simp [intOf] <;> omega⟩
        · rcases List.mem_append.1 hr with h1 | h1
          · exact HU.out r h1
          · rw [List.mem_singleton] at h1; omega
        · unfold byVQ at *
          rw [List.map_append]
          exact ho6
        · rw [show K + 8 + 2 * (k + 1) = K + 8 + 2 * k + 2 by omega]
          exact D4.out.grown hg6 (dst_row HO4.out D4.out)
      · obtain rfl : k = m := by omega
        have hgz : (k : Int) - (k : Int) = 0 := by omega
        rw [hgz]
        clear hgz
        have H1 := Lib.hid (one_any 3 HD.out.1 (by omega) hn (by omega) (by omega))
        go_upto_if 37 with (go_at_call 80; refine H1.out.mono ?_; rintro e w3 ⟨bb, rfl, hs3, hg3⟩)
        have D5 := Lib.hid (HD.out.src hs3 hg3)
        have HO5 := Lib.hid (own_srcQ HOI.out hg3 hp)
        clear hs3 hg3
        go_cut [] (fun wx => ∃ us2 : List Nat, us2.length = k ∧ (∀ y, y ∈ us2 → y < 256) ∧ wx.ownsRow w.heap.size 5 1 (.slice A2 k c2) k (byVQ us2) ∧ DSt w p q b n c A sc (K + 50 + 3 * k) wx)
        case first =>
          cases bb
          · go_wp2_with fail
            go_meet
            exact ⟨us, HUL.out, HU.out, HO5.out, D5.out.more (by omega)⟩
          · go_wp2_with fail
            go_loopw [6] (fun s6 wr => ∃ (i : Nat) (us2 : List Nat), i ≤ k ∧ s6 = .int .i64 i ∧ us2.length = k ∧ (∀ y, y ∈ us2 → y < 256) ∧ wr.ownsRow w.heap.size 5 1 (.slice A2 k c2) k (byVQ us2) ∧ DSt w p q b n c A sc (K + 10 + 2 * k + i) wr) (fun s6 _ => k - (intOf s6).toNat)
            case atStart => exact ⟨0, us, by omega, rfl, HUL.out, HU.out, HO5.out, D5.out.more (by omega)⟩
            case round =>
              obtain ⟨i, us2, hi, rfl, hul2, hu2, ho2, hd2⟩ := hrel
              have HUL2 := Lib.hid hul2
              have HU2 := Lib.hid hu2
              have HO6 := Lib.hid ho2
              have D6 := Lib.hid hd2
              clear hul2 hu2 ho2 hd2
              by_cases hil : i < k
              · obtain ⟨gg, cap, hv, hbg, hgl⟩ := HO6.out.form (by omega)
                injection hv with hA _ hC
                subst hA hC
                have hii : (i : Int) < (k : Int) := by omega
                have HNX := Lib.hid (next_any D6.out.1 (by omega) hn)
                go_wp2_with (go_at_call 78; refine HNX.out.mono ?_; rintro e w4 ⟨v, hv, rfl, hs4, hg4⟩; have hwy := u8wQ hv; have hwy' : (v : Int) % 256 = (v : Int) := (by omega); have D7 := Lib.hid (D6.out.src hs4 hg4); have HO7 := Lib.hid (own_srcQ HO6.out hg4 hp); clear hs4 hg4; obtain ⟨⟨u0, hu0⟩, hf0⟩ := own_cell (i := i) HO7.out (by omega))
                refine ⟨⟨i + 1, us2.set i v, by omega, by go_num, by rw [List.length_set]; exact HUL2.out, fun r hr => ?_, ?_, ?_⟩, by simp [intOf] <;> omega⟩
                · rcases List.mem_or_eq_of_mem_set hr with h1 | h1
                  · exact HU2.out r h1
                  · omega
                · have h := own_set (i := i) HO7.out (by omega) (.int .u8 (v : Int))
                  unfold byVQ at *
                  rw [List.map_set]
                  exact h
                · rw [show K + 10 + 2 * k + (i + 1) = K + 10 + 2 * k + i + 1 by omega]
                  exact D7.out.grown (only_setCell (g := gg) (only_refl _ _) (.inl rfl) _) (dst_row HO7.out D7.out)
              · obtain rfl : i = k := by omega
                go_wp2_with fail
                go_meet
                exact ⟨us2, HUL2.out, HU2.out, HO6.out, D6.out.more (by omega)⟩
        case rest =>
          obtain ⟨us2, hul2, hu2, ho2, hd2⟩ := hcut
          obtain ⟨dat, hdz, hcv⟩ := run_byVQ hul2 hu2 ho2
          have D8 := Lib.hid hd2
          clear hul2 hu2 ho2 hd2
          rw [← HSC.out] at D8
          have x4 := D8.out.2.2.2.1.cell 4
          have y4 := D8.out.2.2.2.1.frozen 4
          go_upto_region 16 with fail
          have D20 := Lib.hid (show DSt w p q b n c A #[.int .i64 (a1 : Int), .int .i64 (d1 : Int), .int .i64 (e1 : Int), .int .i64 z, .string dat, .bool false, .bool false, .bool false] (K + 50 + 3 * k) (wc.setCell ⟨b, 4, none⟩ (.string dat)) from D8.out.set 4 _)
          clear x4 y4 hcv D8
          generalize wc.setCell ⟨b, 4, none⟩ (.string dat) = W20 at *
          go_upto_region 17 with (go_at_call 80; refine (one_any 6 D20.out.1 (by omega) hn (by omega) (by omega)).mono ?_; rintro e w3 ⟨bl, rfl, hs3, hg3⟩; have d3 := D20.out.src hs3 hg3; have x0 := d3.2.2.2.1.cell 5; have y0 := d3.2.2.2.1.frozen 5; have D21 := Lib.hid (show DSt w p q b n c A #[.int .i64 (a1 : Int), .int .i64 (d1 : Int), .int .i64 (e1 : Int), .int .i64 z, .string dat, .bool bl, .bool false, .bool false] (K + 50 + 3 * k + 2) (w3.setCell ⟨b, 5, none⟩ (.bool bl)) from d3.set 5 _); clear hs3 hg3 d3)
          clear x0 y0 D20
          generalize w3.setCell ⟨b, 5, none⟩ (.bool bl) = W21 at *
          go_upto_region 18 with (go_at_call 80; refine (one_any 12 D21.out.1 (by omega) hn (by omega) (by omega)).mono ?_; rintro e w3 ⟨bj, rfl, hs3, hg3⟩; have d3 := D21.out.src hs3 hg3; have x0 := d3.2.2.2.1.cell 6; have y0 := d3.2.2.2.1.frozen 6; have D22 := Lib.hid (show DSt w p q b n c A #[.int .i64 (a1 : Int), .int .i64 (d1 : Int), .int .i64 (e1 : Int), .int .i64 z, .string dat, .bool bl, .bool bj, .bool false] (K + 50 + 3 * k + 4) (w3.setCell ⟨b, 6, none⟩ (.bool bj)) from d3.set 6 _); clear hs3 hg3 d3)
          clear x0 y0 D21
          generalize w3.setCell ⟨b, 6, none⟩ (.bool bj) = W22 at *
          go_upto_region 19 with (go_at_call 80; refine (one_any 9 D22.out.1 (by omega) hn (by omega) (by omega)).mono ?_; rintro e w3 ⟨bh, rfl, hs3, hg3⟩; have d3 := D22.out.src hs3 hg3; have x0 := d3.2.2.2.1.cell 7; have y0 := d3.2.2.2.1.frozen 7; have D23 := Lib.hid (show DSt w p q b n c A #[.int .i64 (a1 : Int), .int .i64 (d1 : Int), .int .i64 (e1 : Int), .int .i64 z, .string dat, .bool bl, .bool bj, .bool bh] (K + 50 + 3 * k + 6) (w3.setCell ⟨b, 7, none⟩ (.bool bh)) from d3.set 7 _); clear hs3 hg3 d3)
          clear x0 y0 D22
          generalize w3.setCell ⟨b, 7, none⟩ (.bool bh) = W23 at *
          have hrb := D23.out.2.2.2.1
          have hrq := D23.out.2.2.1
          have HRQ := Lib.hid hrq
          have x0 := hrb.cell 0
          have x1 := hrb.cell 1
          have x2 := hrb.cell 2
          have x3 := hrb.cell 3
          have x4 := hrb.cell 4
          have x5 := hrb.cell 5
          have x6 := hrb.cell 6
          have x7 := hrb.cell 7
          have hsz8 : (Tryd.prog.info? 44).map (·.size) = some 8 := by kernel_rfl
          have HSZ := Lib.hid hsz8
          have HTH := Lib.hid (show W23.there q 0 8 from fun j hj => ⟨by rw [hrq.cell, Array.getElem?_eq_getElem (by simp; omega)]; rfl, hrq.frozen _⟩)
          have HSOK := Lib.hid (show (⟨(a1 : Int), (d1 : Int), (e1 : Int), z, dat, bl, bj, bh⟩ : SS).ok from by
            show ((0 : Int) ≤ (a1 : Int) ∧ (a1 : Int) ≤ 255) ∧ ((0 : Int) ≤ (d1 : Int) ∧ (d1 : Int) ≤ 255) ∧ ((0 : Int) ≤ (e1 : Int) ∧ (e1 : Int) ≤ 255) ∧ (0 ≤ z ∧ z ≤ 2) ∧ dat.size = 8 * 2 ^ z.toNat
            exact ⟨⟨by omega, by omega⟩, ⟨by omega, by omega⟩, ⟨by omega, by omega⟩, by rcases HZ.out with h | h | h <;> omega, by rw [hdz]; exact hm.out⟩)
          clear hrb hrq hsz8
          have hsg : SGt w p q n c A (K + 300) W23 := ⟨D23.out.1.more (by omega), D23.out.2.1, by omega, by have := HQ.out; omega⟩
          go_wp2_with (refine wpList_store_mid rfl 44 (.tmp 2) (.tmp 62) rfl q 0 #[.int .i64 (a1 : Int), .int .i64 (d1 : Int), .int .i64 (e1 : Int), .int .i64 z, .string dat, .bool bl, .bool bj, .bool bh] rfl rfl HTH.out HSZ.out (by simp [Value.oneCell']) ?_; have HR9 := Lib.hid (show Rw (W23.setCells q 0 [.int .i64 (a1 : Int), .int .i64 (d1 : Int), .int .i64 (e1 : Int), .int .i64 z, .string dat, .bool bl, .bool bj, .bool bh]) q 44 #[.int .i64 (a1 : Int), .int .i64 (d1 : Int), .int .i64 (e1 : Int), .int .i64 z, .string dat, .bool bl, .bool bj, .bool bh] from ((((((((HRQ.out.set 0 (.int .i64 (a1 : Int))).set 1 (.int .i64 (d1 : Int))).set 2 (.int .i64 (e1 : Int))).set 3 (.int .i64 z)).set 4 (.string dat)).set 5 (.bool bl)).set 6 (.bool bj)).set 7 (.bool bh))); have SG9 := Lib.hid (show SGt w p q n c A (K + 300) (W23.setCells q 0 [.int .i64 (a1 : Int), .int .i64 (d1 : Int), .int .i64 (e1 : Int), .int .i64 z, .string dat, .bool bl, .bool bj, .bool bh]) from ((((((((hsg.set 0 (.int .i64 (a1 : Int))).set 1 (.int .i64 (d1 : Int))).set 2 (.int .i64 (e1 : Int))).set 3 (.int .i64 z)).set 4 (.string dat)).set 5 (.bool bl)).set 6 (.bool bj)).set 7 (.bool bh))); generalize W23.setCells q 0 _ = W9 at *)
          have r0 := HR9.out.cell 0
          have r1 := HR9.out.cell 1
          have r2 := HR9.out.cell 2
          have r3 := HR9.out.cell 3
          have r4 := HR9.out.cell 4
          have r5 := HR9.out.cell 5
          have r6 := HR9.out.cell 6
          have r7 := HR9.out.cell 7
          exact bodyPost_ret (v := .agg #[.int .i64 (a1 : Int), .int .i64 (d1 : Int), .int .i64 (e1 : Int), .int .i64 z, .string dat, .bool bl, .bool bj, .bool bh]) (by simp [results, Tryd.results44, go_sem, r0, r1, r2, r3, r4, r5, r6, r7]) rfl ⟨_, HSOK.out, rfl, SG9.out.1, SG9.out.2.1⟩
end Go.Proofs.YtabmdbhbbmnkdaaDoor
