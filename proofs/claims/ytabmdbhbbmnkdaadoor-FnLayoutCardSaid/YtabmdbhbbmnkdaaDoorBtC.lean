/-
  Tracks: the program's number of cells, the parts of a sector.
-/
import Derived.Test.YtabmdbhbbmnkdaaDoorBtV
namespace Go.Proofs.YtabmdbhbbmnkdaaDoor
open Go Go.ChangeShapes Go.WideShapes Go.ChangeAt Go.RowKit Go.Joins lib
set_option linter.unusedVariables false
set_option linter.unusedSimpArgs false
set_option maxRecDepth 100000
theorem byteCells_any (f : Nat) (hf : f123 f) (x : Int) (hx : x = f) (w : World) : Calls Tryd.prog 58 #[.int .i64 x] w fun e w' => e = .returned (.int .i64 (cellN f : Nat)) ∧ w' = w := by
  subst hx
  rcases hf with rfl | rfl | rfl <;> (
    go_enter Tryd.func58, Tryd.ntmps58
    go_wp2
    go_ret
    exact ⟨rfl, rfl⟩)
theorem cellN_le (f : Nat) : cellN f ≤ 16 := by unfold cellN; split <;> omega
theorem runN_le (f : Nat) : runN f ≤ 112 := by unfold runN; split <;> (try split) <;> omega
theorem runIn_any (f : Nat) (hf : f123 f) (x : Int) (hx : x = f) (w : World) : Calls Tryd.prog 88 #[.int .i64 x] w fun e w' => e = .returned (.int .i64 (runN f : Nat)) ∧ w' = w := by
  subst hx
  rcases hf with rfl | rfl | rfl <;> (
    go_enter Tryd.func88, Tryd.ntmps88
    go_wp2
    go_ret
    exact ⟨rfl, rfl⟩)
def sectZ (f : Nat) (z : Int) : Nat := 2 * runN f + (10 + 8 * 2 ^ z.toNat) * cellN f
theorem sectZ_le (f : Nat) (z : Int) (h0 : 0 ≤ z) (h2 : z ≤ 2) : sectZ f z ≤ 1000 := by
  have h1 := cellN_le f
  have h3 := runN_le f
  unfold sectZ
  have : z = 0 ∨ z = 1 ∨ z = 2 := by omega
  rcases this with rfl | rfl | rfl
  · show 2 * runN f + (10 + 8 * 1) * cellN f ≤ 1000
    omega
  · show 2 * runN f + (10 + 8 * 2) * cellN f ≤ 1000
    omega
  · show 2 * runN f + (10 + 8 * 4) * cellN f ≤ 1000
    omega
theorem sectorCells_any (f : Nat) (hf : f123 f) (x z : Int) (hx : x = f) (h0 : 0 ≤ z) (h2 : z ≤ 2) (w : World) : Calls Tryd.prog 59 #[.int .i64 x, .int .i64 z] w fun e w' => e = .returned (.int .i64 (sectZ f z : Nat)) ∧ w' = w := by
  have HR := Lib.hid (fun W => runIn_any f hf x hx W)
  have HC := Lib.hid (fun W => byteCells_any f hf x hx W)
  have HS := Lib.hid (fun W => sizeB_any z h0 h2 W)
  have e : sectZ f z = 2 * runN f + (10 + 8 * 2 ^ z.toNat) * cellN f := rfl
  rw [e]
  have hc := cellN_le f
  have hr := runN_le f
  obtain ⟨C, hC⟩ : ∃ C, cellN f = C := ⟨_, rfl⟩
  obtain ⟨R, hR⟩ : ∃ R, runN f = R := ⟨_, rfl⟩
  rw [hC] at HC hc ⊢
  rw [hR] at HR hr ⊢
  have : z = 0 ∨ z = 1 ∨ z = 2 := by omega
  clear hC hR hx h0 h2 e
  rcases this with rfl | rfl | rfl <;> (
    first | rw [show szB 0 = 8 from rfl] at HS | rw [show szB 1 = 16 from rfl] at HS | rw [show szB 2 = 32 from rfl] at HS
    go_enter Tryd.func59, Tryd.ntmps59
    go_wp2_with (first
      | (go_at_call 88; refine (HR.out _).mono ?_; rintro e w' ⟨rfl, hw'⟩; rw [hw']; clear hw' w')
      | (go_at_call 71; refine (HS.out _).mono ?_; rintro e w' ⟨rfl, hw'⟩; rw [hw']; clear hw' w')
      | (go_at_call 58; refine (HC.out _).mono ?_; rintro e w' ⟨rfl, hw'⟩; rw [hw']; clear hw' w'))
    go_ret
    refine ⟨?_, rfl⟩
    try simp)
theorem trackN_snoc (f g : Nat) (l : List SS) (s : SS) : trackN f g (l ++ [s]) = trackN f g l + (g * cellN f + sectN f s) := by
  unfold trackN
  rw [List.map_append, List.sum_append]
  simp
  omega
theorem trackN_le (f g : Nat) (hg : g ≤ 20) : ∀ (l : List SS), (∀ s ∈ l, s.ok) → trackN f g l ≤ 320 + l.length * 1320 := by
  have h16 := cellN_le f
  have hgc : g * cellN f ≤ 320 := Nat.le_trans (Nat.mul_le_mul hg h16) (by omega)
  intro l
  induction l with
  | nil => intro _; unfold trackN; simp; omega
  | cons s r ih =>
    intro h
    have ih := ih fun t ht => h t (List.mem_cons_of_mem _ ht)
    have hs := (h s (List.mem_cons_self ..)).2.2.2.1
    have h1 := sectZ_le f s.sz hs.1 hs.2
    unfold sectZ at h1
    unfold trackN sectN at *
    rw [List.map_cons, List.sum_cons, List.length_cons]
    omega
set_option maxHeartbeats 4000000 in
theorem trackCells_any (f g : Nat) (hf : f123 f) (hg : g ≤ 20) (L : List SS) (A : Option Addr) (c : Nat) (w : World) (hn : L.length ≤ 8) (hok : ∀ s ∈ L, s.ok) (hs : SSl w w.heap.size A L) :
    Calls Tryd.prog 30 #[.agg (trkA f g A L.length c)] w fun e w' => e = .returned (.int .i64 (trackN f g L : Nat)) ∧ Below w.heap.size w w' := by
  have h16 := cellN_le f
  have hgc : g * cellN f ≤ 320 := Nat.le_trans (Nat.mul_le_mul hg h16) (by omega)
  have HS := Lib.hid hs
  have HTL := Lib.hid (fun k => trackN_le f g hg (L.take k) (fun s h => hok s (List.mem_of_mem_take h)))
  have HOK := Lib.hid hok
  have HC := Lib.hid (fun W => byteCells_any f hf f rfl W)
  have HZ := Lib.hid (fun z h0 h2 W => sectorCells_any f hf f z rfl h0 h2 W)
  obtain ⟨N, hN⟩ : ∃ N, L.length = N := ⟨_, rfl⟩
  have HN := Lib.hid hN
  obtain ⟨C, hC⟩ : ∃ C, cellN f = C := ⟨_, rfl⟩
  rw [hC] at HC h16 hgc
  have HCC := Lib.hid hC
  obtain ⟨G, hG⟩ : ∃ G, g * C = G := ⟨_, rfl⟩
  have HG := Lib.hid (show trackN f g [] = G by rw [← hG, ← hC]; unfold trackN; simp)
  have HGG := Lib.hid (show G = g * cellN f by rw [← hG, ← hC])
  rw [hG] at hgc
  have hgi : (g : Int) * (C : Int) = (G : Int) := by rw [← hG]; simp
  have hgw : IntKind.i64.wrap (G : Int) = (G : Int) := by rw [IntKind.wrap_i64]; omega
  unfold trkA
  have hr : Rw (w.alloc (.cells #[.int .i64 (f : Int), .int .i64 (g : Int), .slice A L.length c] 25)) w.heap.size 25 #[.int .i64 (f : Int), .int .i64 (g : Int), .slice A L.length c] := Rw.new _ _ _
  have hb : Below w.heap.size w (w.alloc (.cells #[.int .i64 (f : Int), .int .i64 (g : Int), .slice A L.length c] 25)) := (Below.refl _ _).alloc (Nat.le_refl _) _
  have hzz : (w.alloc (.cells #[.int .i64 (f : Int), .int .i64 (g : Int), .slice A L.length c] 25)).heap.size = w.heap.size + 1 := by simp
  rw [hN] at hn hr hb hzz ⊢
  have HB := Lib.hid hb
  have HR := Lib.hid hr
  have k0 := hr.cell 0
  have k1 := hr.cell 1
  have k2 := hr.cell 2
  have HZZ := Lib.hid hzz
  clear hb hs hr hok hN hC hG hzz
  go_enter Tryd.func30, Tryd.ntmps30
  go_wp2
  go_quiet ((go_at_call 58; exact Calls.quiet_of_same (HC.out _)))
  go_wp2_with fail
  clear k0 k1 k2 hgi hgw
  generalize w.alloc (.cells #[.int .i64 (f : Int), .int .i64 (g : Int), .slice A N c] 25) = W1 at *
  go_loopw [4, 17] (fun s4 s17 wr => ∃ k : Nat, k ≤ N ∧ s17 = .int .i64 k ∧ s4 = .int .i64 (trackN f g (L.take k) : Nat) ∧ Rw wr w.heap.size 25 #[.int .i64 (f : Int), .int .i64 (g : Int), .slice A N c] ∧ Below w.heap.size w wr ∧ w.heap.size + 1 ≤ wr.heap.size) (fun _ i _ => N - (intOf i).toNat)
  case atStart => exact ⟨0, by omega, rfl, by rw [List.take_zero, HG.out], HR.out, HB.out.drewN _, Nat.le_of_eq HZZ.out.symm⟩
  case round =>
    obtain ⟨k, hk, rfl, rfl, hrr, hbr, hzr⟩ := hrel
    have HBR := Lib.hid hbr
    have HRR := Lib.hid hrr
    have ht := HTL.out k
    have k0 := hrr.cell 0
    clear hrr hbr
    by_cases hlt : k < N
    · have hkL : k < L.length := by rw [HN.out]; exact hlt
      obtain ⟨b, o, rfl, hbb, c0, c1, c2, c3, c4, c5, c6, c7⟩ := (HS.out.below HBR.out).elem hkL
      have hmem : sAt L k ∈ L := by
        unfold sAt
        rw [List.getD_eq_getElem?_getD, List.getElem?_eq_getElem hkL]
        exact List.getElem_mem hkL
      have hsk := (HOK.out _ hmem).2.2.2.1
      have HTS := Lib.hid (show trackN f g (L.take (k + 1)) = trackN f g (L.take k) + (G + sectZ f (sAt L k).sz) by
        rw [List.take_succ_eq_append_getElem hkL, trackN_snoc, HGG.out]
        unfold sAt sectN sectZ
        rw [List.getD_eq_getElem?_getD, List.getElem?_eq_getElem hkL]
        rfl)
      have hle : (L.take k).length ≤ 8 := by rw [List.length_take]; omega
      obtain ⟨T, hT⟩ : ∃ T, trackN f g (L.take k) = T := ⟨_, rfl⟩
      rw [hT] at ht HTS ⊢
      have hTb : T ≤ 20000 := by omega
      obtain ⟨S, hS⟩ : ∃ S, sAt L k = S := ⟨_, rfl⟩
      rw [hS] at c0 c1 c2 c3 c4 c5 c6 c7 hsk HTS
      have hZ := HZ.out S.sz hsk.1 hsk.2
      have hzl := sectZ_le f S.sz hsk.1 hsk.2
      have hi8 : (k : Int) < (N : Int) := by omega
      clear hS hkL hT hmem ht hle
      obtain ⟨cy, hdd, no, sz, dt, dl, bi, bd⟩ := S
      simp only at c0 c1 c2 c3 c4 c5 c6 c7 hZ hsk hzl HTS
      obtain ⟨Z, hZZ⟩ : ∃ Z, sectZ f sz = Z := ⟨_, rfl⟩
      rw [hZZ] at hZ hzl HTS
      have HZ2 := Lib.hid hZ
      have hra := HRR.out.alloc (.cells #[.int .i64 cy, .int .i64 hdd, .int .i64 no, .int .i64 sz, .string dt, .bool dl, .bool bi, .bool bd] 44)
      have ka := hra.cell 0
      have HRA := Lib.hid hra
      clear hZ hZZ hsk hra
      go_wp2_with (go_at_call 59; refine (HZ2.out _).mono ?_; rintro e w' ⟨rfl, hw'⟩; rw [hw']; clear hw' w')
      exact ⟨⟨k + 1, by omega, by go_num, by rw [HTS.out]; simp, HRA.out, HBR.out.alloc (by omega) _, by simp; omega⟩, by simp [intOf]; omega⟩
    · obtain rfl : k = N := by omega
      go_wp2_with fail
      go_ret
      rw [show L.take k = L from List.take_of_length_le (Nat.le_of_eq HN.out)]
      exact ⟨rfl, HBR.out⟩
end Go.Proofs.YtabmdbhbbmnkdaaDoor
