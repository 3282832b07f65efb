/-
  Tracks: marks, fields, the whole. Plain.
-/
import Derived.Test.YtabmdbhbbmnkdaaDoorBtP
namespace Go.Proofs.YtabmdbhbbmnkdaaDoor
open Go Go.ChangeShapes Go.WideShapes Go.ChangeAt Go.RowKit lib
set_option linter.unusedVariables false
set_option maxRecDepth 100000
def f123 (f : Nat) : Prop := f = 1 ∨ f = 2 ∨ f = 3
/-- the byte of a mark -/
def mByte (f k : Nat) : Nat := if f = 3 then 9 - k else 257 - 3 * k
def mY (f k : Nat) : UInt8 := UInt8.ofNat (mByte f k)
/-- clocks by their place, each ahead of a bit -/
def fmGo (cl : ByteArray) : Nat → List Bool → List UInt8
  | _, [] => []
  | i, b :: r => byteAt cl (i % 8) :: cellB b :: fmGo cl (i + 1) r
theorem fmGo_snoc (cl : ByteArray) : ∀ (l : List Bool) (i : Nat) (b : Bool), fmGo cl i (l ++ [b]) = fmGo cl i l ++ [byteAt cl ((i + l.length) % 8), cellB b]
  | [], i, b => rfl
  | x :: r, i, b => by
    rw [List.cons_append, fmGo, fmGo, fmGo_snoc cl r (i + 1) b, List.length_cons, show i + 1 + r.length = i + (r.length + 1) by omega]
    rfl
theorem fmGo_len (cl : ByteArray) : ∀ (l : List Bool) (i : Nat), (fmGo cl i l).length = 2 * l.length
  | [], _ => rfl
  | b :: r, i => by
    rw [fmGo, List.length_cons, List.length_cons, fmGo_len cl r (i + 1), List.length_cons]
    omega
def cl8 : ByteArray := ⟨#[49, 49, 49, 49, 49, 49, 49, 49]⟩
def clM : ByteArray := ⟨#[49, 49, 48, 48, 48, 49, 49, 49]⟩
theorem byteAt_cl8 (i : Nat) (h : i < 8) : byteAt cl8 i = 49 := by
  have : i = 0 ∨ i = 1 ∨ i = 2 ∨ i = 3 ∨ i = 4 ∨ i = 5 ∨ i = 6 ∨ i = 7 := by omega
  rcases this with rfl | rfl | rfl | rfl | rfl | rfl | rfl | rfl <;> rfl
/-- FM's clocks are all 1 -/
theorem fmGo_ones (last : Bool) : ∀ (l : List Bool) (i : Nat), fmGo cl8 i l = encL false last l
  | [], _ => rfl
  | b :: r, i => by
    rw [fmGo, encL, fmGo_ones b r (i + 1), byteAt_cl8 _ (Nat.mod_lt _ (by omega))]
    rfl
def mfmMk : List UInt8 := [48, 49, 48, 48, 48, 49, 48, 48, 49, 48, 48, 48, 49, 48, 48, 49]
def ten1 : List UInt8 := [49, 49, 49, 49, 49, 49, 49, 49, 49, 49]
/-- the cells of a mark -/
def markL (f k : Nat) : List UInt8 := if f = 1 then fmGo clM 0 (bitsY (mY f k)) else if f = 2 then mfmMk ++ mfmMk ++ mfmMk ++ encL true true (bitsY (mY f k)) else ten1 ++ gcrY (mY f k)
theorem bitsL_one (y : UInt8) : bitsL [y] = bitsY y := by unfold bitsL; rw [List.flatMap_cons, List.flatMap_nil, List.append_nil]
theorem gcrL_one (y : UInt8) : gcrL [y] = gcrY y := by unfold gcrL; rw [List.flatMap_cons, List.flatMap_nil, List.append_nil]
theorem markL_len (f k : Nat) : (markL f k).length ≤ 64 := by
  unfold markL
  split
  · rw [fmGo_len, bitsY_len]; omega
  split
  · rw [List.length_append, encL_len, bitsY_len]; exact Nat.le_refl _
  · rw [List.length_append, ← gcrL_one, gcrL_len]
    show 10 + 10 * 1 ≤ 64
    omega
/-- what goes ahead of a field in its checksum -/
def prefL (f k : Nat) : List UInt8 := if f = 2 then [161, 161, 161, mY f k] else [mY f k]
def crcL (l : List UInt8) : Nat := crcN (fun i => l.getD i 0) l.length 65535
theorem crcL_lt (l : List UInt8) : crcL l < 65536 := crcN_lt _ _ _ (by omega)
def sumV (bad : Bool) (v : Nat) : Nat := if bad then 65535 - v else v
theorem sumV_lt (bad : Bool) {v : Nat} (h : v < 65536) : sumV bad v < 65536 := by
  unfold sumV
  split <;> omega
/-- a field and its checksum -/
def fieldL (f k : Nat) (d : List UInt8) (bad : Bool) : List UInt8 := d ++ (word2 (sumV bad (crcL (prefL f k ++ d)))).data.toList
theorem fieldL_len (f k : Nat) (d : List UInt8) (bad : Bool) : (fieldL f k d bad).length = d.length + 2 := by
  unfold fieldL
  rw [List.length_append]
  rfl
/-- the last bit of bytes -/
def lastY (l : List UInt8) : Bool := (l.getLast?.getD 0).toNat % 2 == 1
theorem encF3_len (f : Nat) (last : Bool) (l : List UInt8) : (encF3 f last l).length ≤ 16 * l.length := by
  unfold encF3
  split
  · rw [encL_len, bitsL_len]; omega
  split
  · rw [encL_len, bitsL_len]; omega
  · rw [gcrL_len]; omega
/-- a writer's state: the last bit, the cells -/
abbrev WS := Bool × List UInt8
def wBytes (f : Nat) (s : WS) (l : List UInt8) : WS := (lastY l, s.2 ++ encF3 f s.1 l)
def wRun (f : Nat) (s : WS) : WS := if f = 1 then wBytes f s [0, 0] else if f = 2 then wBytes f s [0, 0, 0] else (s.1, s.2 ++ ten1)
def wMark (f k : Nat) (s : WS) : WS := (mByte f k % 2 == 1, (wRun f s).2 ++ markL f k)
theorem wBytes_len (f : Nat) (s : WS) (l : List UInt8) : (wBytes f s l).2.length ≤ s.2.length + 16 * l.length := by
  have := encF3_len f s.1 l
  show (s.2 ++ encF3 f s.1 l).length ≤ _
  rw [List.length_append]
  omega
theorem wRun_len (f : Nat) (s : WS) : (wRun f s).2.length ≤ s.2.length + 48 := by
  unfold wRun
  split
  · exact Nat.le_trans (wBytes_len f s _) (by simp)
  split
  · exact Nat.le_trans (wBytes_len f s _) (by simp)
  · show (s.2 ++ ten1).length ≤ _
    rw [List.length_append]
    show s.2.length + 10 ≤ _
    omega
theorem wMark_len (f k : Nat) (s : WS) : (wMark f k s).2.length ≤ s.2.length + 112 := by
  have h1 := wRun_len f s
  have h2 := markL_len f k
  show ((wRun f s).2 ++ markL f k).length ≤ _
  rw [List.length_append]
  omega
/-- a sector's description -/
structure SS where
  cy : Int
  hd : Int
  no : Int
  sz : Int
  dt : ByteArray
  dl : Bool
  bi : Bool
  bd : Bool
def SS.kd (s : SS) : Nat := if s.dl then 3 else 2
theorem SS.kd123 (s : SS) : f123 s.kd := by
  unfold SS.kd f123
  split <;> simp
def SS.id (s : SS) : List UInt8 := [UInt8.ofNat s.cy.toNat, UInt8.ofNat s.hd.toNat, UInt8.ofNat s.no.toNat, UInt8.ofNat s.sz.toNat]
def fillY (f : Nat) : UInt8 := if f = 1 then 255 else if f = 2 then 78 else 85
def wSect (f g : Nat) (w : WS) (s : SS) : WS :=
  let w1 := wBytes f w (List.replicate g (fillY f))
  let w2 := wMark f 1 w1
  let w3 := wBytes f w2 (fieldL f 1 s.id s.bi)
  let w4 := wBytes f w3 [fillY f, fillY f]
  let w5 := wMark f s.kd w4
  wBytes f w5 (fieldL f s.kd s.dt.data.toList s.bd)
/-- the cells of a track -/
def trackL (f g : Nat) (l : List SS) : List UInt8 := (wBytes f (l.foldl (wSect f g) (false, [])) (List.replicate g (fillY f))).2
/-- a valid sector -/
def SS.ok (s : SS) : Prop := (0 ≤ s.cy ∧ s.cy ≤ 255) ∧ (0 ≤ s.hd ∧ s.hd ≤ 255) ∧ (0 ≤ s.no ∧ s.no ≤ 255) ∧ (0 ≤ s.sz ∧ s.sz ≤ 2) ∧ s.dt.size = 8 * 2 ^ s.sz.toNat
theorem SS.ok.len {s : SS} (h : s.ok) : s.dt.size ≤ 32 := by
  obtain ⟨_, _, _, h4, h5⟩ := h
  have : s.sz.toNat = 0 ∨ s.sz.toNat = 1 ∨ s.sz.toNat = 2 := by omega
  rcases this with h | h | h <;> rw [h] at h5 <;> omega
theorem wSect_len (f g : Nat) (w : WS) (s : SS) (h : s.ok) (hg : g ≤ 20) : (wSect f g w s).2.length ≤ w.2.length + 1300 := by
  unfold wSect
  have h0 := h.len
  refine Nat.le_trans (wBytes_len f _ _) ?_
  rw [fieldL_len]
  refine Nat.le_trans (Nat.add_le_add_right (wMark_len f _ _) _) ?_
  refine Nat.le_trans (Nat.add_le_add_right (Nat.add_le_add_right (wBytes_len f _ _) _) _) ?_
  refine Nat.le_trans (Nat.add_le_add_right (Nat.add_le_add_right (Nat.add_le_add_right (wBytes_len f _ _) _) _) _) ?_
  rw [fieldL_len]
  refine Nat.le_trans (Nat.add_le_add_right (Nat.add_le_add_right (Nat.add_le_add_right (Nat.add_le_add_right (wMark_len f _ _) _) _) _) _) ?_
  refine Nat.le_trans (Nat.add_le_add_right (Nat.add_le_add_right (Nat.add_le_add_right (Nat.add_le_add_right (Nat.add_le_add_right (wBytes_len f _ _) _) _) _) _) _) ?_
  rw [List.length_replicate]
  show w.2.length + 16 * g + 112 + 16 * (4 + 2) + 16 * 2 + 112 + 16 * (s.dt.size + 2) ≤ _
  omega
/-- cells of a byte, of a mark with its sync -/
def cellN (f : Nat) : Nat := if f = 3 then 10 else 16
def runN (f : Nat) : Nat := if f = 1 then 48 else if f = 2 then 112 else 30
def sectN (f : Nat) (s : SS) : Nat := 2 * runN f + (10 + 8 * 2 ^ s.sz.toNat) * cellN f
/-- the number of a track's cells -/
def trackN (f g : Nat) (l : List SS) : Nat := g * cellN f + (l.map fun s => g * cellN f + sectN f s).sum
def okT (f g : Int) (l : List SS) : Prop := 1 ≤ f ∧ f ≤ 3 ∧ 1 ≤ g ∧ g ≤ 20 ∧ l.length ≤ 8 ∧ ∀ s ∈ l, s.ok
end Go.Proofs.YtabmdbhbbmnkdaaDoor
