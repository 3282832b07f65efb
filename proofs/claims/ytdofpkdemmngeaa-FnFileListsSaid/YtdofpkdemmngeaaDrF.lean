/-
  The reference's source of choices: a list of files.
-/
import Derived.Test.YtdofpkdemmngeaaDrD
import Derived.Test.YtdofpkdemmngeaaFCmp
import Derived.Deep.RegionHeld3
import Derived.Deep.AppendLies
namespace Go.Proofs.Ytdofpkdemmngeaa
open Go Go.ChangeShapes Go.WideShapes Go.ChangeAt Go.RowKit lib
set_option linter.unusedVariables false
set_option linter.unusedSimpArgs false
set_option maxRecDepth 100000
theorem cell_src {w w' : World} {b o p : Nat} {v : Value} (h : w.cell? ⟨b, o, none⟩ = some v) (hg : w.grownBy w' (some p)) (hb : b ≠ p) : w'.cell? ⟨b, o, none⟩ = some v := by
  have hlt : b < w.heap.size := World.block_lt_of_cell? w ⟨b, o, none⟩ h
  rw [← h]
  unfold World.cell?
  rw [hg.block b hlt (fun e => hb (by simpa using e))]
theorem cell_al {w : World} {b o : Nat} {v : Value} {O : Obj} (h : w.cell? ⟨b, o, none⟩ = some v) : (w.alloc O).cell? ⟨b, o, none⟩ = some v := by
  have hlt : b < w.heap.size := World.block_lt_of_cell? w ⟨b, o, none⟩ h
  rw [((Below.refl w.heap.size w).alloc (Nat.le_refl _) O).cell (p := ⟨b, o, none⟩) hlt]
  exact h
theorem cell_own {w w' : World} {b o : Nat} {v : Value} {row : Option Nat} (h : w.cell? ⟨b, o, none⟩ = some v) (hg : w.grownBy w' row) (hlt : b < w.heap.size) (hb : row ≠ some b) : w'.cell? ⟨b, o, none⟩ = some v := by
  rw [← h]
  unfold World.cell?
  rw [hg.block b hlt (fun e => hb e.symm)]
theorem newsD (w : World) (e : Nat) (x y : Value) : ∀ (j : Nat) (q : Value), [x, y][j]? = some q → (w.alloc (.cells #[x, y] e)).cell? ((⟨w.heap.size, 0, none⟩ : Addr).add j) = some q := by
  intro j q h
  match j with
  | 0 =>
    have : q = x := by simpa using h.symm
    subst this
    exact World.cell?_alloc_new w #[q, y] e 0
  | 1 =>
    have : q = y := by simpa using h.symm
    subst this
    exact World.cell?_alloc_new w #[x, q] e 1
  | j + 2 => simp at h
theorem infoFD : (Try.prog.info? 43).map (fun i => (i.zero, i.size, i.bytes)) = some (some (.agg #[.string ⟨#[]⟩, .string ⟨#[]⟩]), 2, 32) := by kernel_rfl
def smallF (L : List (ByteArray × ByteArray)) : Prop := ∀ f, f ∈ L → f.1.size ≤ 1000 ∧ f.2.size ≤ 1000
theorem smallF.snoc {L : List (ByteArray × ByteArray)} (h : smallF L) {x y : ByteArray} (hx : x.size ≤ 1000) (hy : y.size ≤ 1000) : smallF (L ++ [(x, y)]) := fun f hf => by
  rcases List.mem_append.1 hf with h1 | h1
  · exact h f h1
  · rw [List.mem_singleton] at h1; subst h1; exact ⟨hx, hy⟩
/-- one of seven sizes, in any world -/
theorem among7_any {W : World} {p n c K : Nat} {A : Option Addr} (h : SrcOK W p A n c K) (hK : K ≤ 274877906944) (hn : n ≤ 1048576) :
    Calls Try.prog 34 #[.pointer (some ⟨p, 0, none⟩), .slice (some ⟨W.heap.size, 0, none⟩) 7 7] (W.alloc (.cells #[.int .i64 0, .int .i64 1, .int .i64 7, .int .i64 30, .int .i64 60, .int .i64 26, .int .i64 100] 2)) fun e w' => ∃ z : Nat, z ≤ 1000 ∧ e = .returned (.int .i64 (z : Int)) ∧ SrcOK w' p A n c (K + 2) ∧ (W.alloc (.cells #[.int .i64 0, .int .i64 1, .int .i64 7, .int .i64 30, .int .i64 60, .int .i64 26, .int .i64 100] 2)).grownBy w' (some p) := by
  have hp := h.lt
  refine (among_any (some ⟨W.heap.size, 0, none⟩) 7 7 (fun i => .int .i64 ((([0, 1, 7, 30, 60, 26, 100] : List Nat).getD i 0 : Nat) : Int)) (h.below ((Below.refl W.heap.size W).alloc (Nat.le_refl _) _)) (by omega) hn (by omega) (by omega) (fun b o e => by cases e; omega) (sl_lit _ (fun i hi => by
    have : i = 0 ∨ i = 1 ∨ i = 2 ∨ i = 3 ∨ i = 4 ∨ i = 5 ∨ i = 6 := by omega
    rcases this with rfl | rfl | rfl | rfl | rfl | rfl | rfl <;> rfl))).mono ?_
  rintro e w' ⟨v, hv, he, hs, hg⟩
  refine ⟨_, ?_, he, hs, hg⟩
  have : v = 0 ∨ v = 1 ∨ v = 2 ∨ v = 3 ∨ v = 4 ∨ v = 5 ∨ v = 6 := by omega
  rcases this with rfl | rfl | rfl | rfl | rfl | rfl | rfl <;> decide
theorem among3_any {W : World} {p n c K : Nat} {A : Option Addr} (h : SrcOK W p A n c K) (hK : K ≤ 274877906944) (hn : n ≤ 1048576) :
    Calls Try.prog 34 #[.pointer (some ⟨p, 0, none⟩), .slice (some ⟨W.heap.size, 0, none⟩) 3 3] (W.alloc (.cells #[.int .i64 1, .int .i64 513, .int .i64 512] 2)) fun e w' => ∃ z : Nat, z ≤ 1000 ∧ e = .returned (.int .i64 (z : Int)) ∧ SrcOK w' p A n c (K + 2) ∧ (W.alloc (.cells #[.int .i64 1, .int .i64 513, .int .i64 512] 2)).grownBy w' (some p) := by
  have hp := h.lt
  refine (among_any (some ⟨W.heap.size, 0, none⟩) 3 3 (fun i => .int .i64 ((([1, 513, 512] : List Nat).getD i 0 : Nat) : Int)) (h.below ((Below.refl W.heap.size W).alloc (Nat.le_refl _) _)) (by omega) hn (by omega) (by omega) (fun b o e => by cases e; omega) (sl_lit _ (fun i hi => by
    have : i = 0 ∨ i = 1 ∨ i = 2 := by omega
    rcases this with rfl | rfl | rfl <;> rfl))).mono ?_
  rintro e w' ⟨v, hv, he, hs, hg⟩
  refine ⟨_, ?_, he, hs, hg⟩
  have : v = 0 ∨ v = 1 ∨ v = 2 := by omega
  rcases this with rfl | rfl | rfl <;> decide
theorem text4_any {W : World} {p n c K : Nat} {A : Option Addr} (h : SrcOK W p A n c K) (hK : K ≤ 274877906944) (hn : n ≤ 1048576) :
    Calls Try.prog 35 #[.pointer (some ⟨p, 0, none⟩), .slice (some ⟨W.heap.size, 0, none⟩) 4 4] (W.alloc (.cells #[.string ⟨#[65]⟩, .string ⟨#[108, 111, 119]⟩, .string ⟨#[]⟩, .string ⟨#[90, 90]⟩] 9)) fun e w' => ∃ x : ByteArray, x.size ≤ 1000 ∧ e = .returned (.string x) ∧ SrcOK w' p A n c (K + 2) ∧ (W.alloc (.cells #[.string ⟨#[65]⟩, .string ⟨#[108, 111, 119]⟩, .string ⟨#[]⟩, .string ⟨#[90, 90]⟩] 9)).grownBy w' (some p) := by
  have hp := h.lt
  refine (text_any (some ⟨W.heap.size, 0, none⟩) 4 4 (fun i => .string (([⟨#[65]⟩, ⟨#[108, 111, 119]⟩, ⟨#[]⟩, ⟨#[90, 90]⟩] : List ByteArray).getD i ⟨#[]⟩)) (h.below ((Below.refl W.heap.size W).alloc (Nat.le_refl _) _)) (by omega) hn (by omega) (by omega) (fun b o e => by cases e; omega) (sl_lit _ (fun i hi => by
    have : i = 0 ∨ i = 1 ∨ i = 2 ∨ i = 3 := by omega
    rcases this with rfl | rfl | rfl | rfl <;> rfl))).mono ?_
  rintro e w' ⟨v, hv, he, hs, hg⟩
  refine ⟨_, ?_, he, hs, hg⟩
  have : v = 0 ∨ v = 1 ∨ v = 2 ∨ v = 3 := by omega
  rcases this with rfl | rfl | rfl | rfl <;> decide
def namesD : List ByteArray := [⟨#[65]⟩, ⟨#[66, 49]⟩, ⟨#[71, 65, 77, 69]⟩, ⟨#[76, 79, 65, 68, 69, 82]⟩, ⟨#[82, 69, 65, 68, 77, 69]⟩, ⟨#[83, 67, 79, 82, 69, 83]⟩, ⟨#[90, 65, 80]⟩]
theorem namesD_small : ∀ i, i < 7 → (namesD.getD i ⟨#[]⟩).size ≤ 1000 := by decide
set_option maxHeartbeats 8000000 in
theorem drawFiles_any {w : World} {p n c K : Nat} {A : Option Addr} (m : Nat) (h : SrcOK w p A n c K) (hK : K ≤ 137438953472) (hn : n ≤ 1048576) (hm1 : 1 ≤ m) (hm : m ≤ 1000) :
    Calls Try.prog 15 #[.pointer (some ⟨p, 0, none⟩), .int .i64 (m : Int)] w fun e w' => ∃ (L : List (ByteArray × ByteArray)) (A2 : Option Addr) (c2 : Nat), L.length ≤ 8 ∧ smallF L ∧ e = .returned (.slice A2 L.length c2) ∧ FileR w.heap.size w' A2 c2 L ∧ SrcOK w' p A n c (K + 40000) ∧ w.grownBy w' (some p) := by
  obtain ⟨i0, hi0, hi1, hi2, hi3⟩ := info_parts infoFD
  have hp := h.lt
  obtain ⟨NM, hNM⟩ : ∃ NM : Obj, NM = .cells (namesD.map Value.string).toArray 9 := ⟨_, rfl⟩
  have hal := (Below.refl w.heap.size w).alloc (Nat.le_refl _) NM
  have hal2 := (Below.refl (w.alloc NM).heap.size (w.alloc NM)).alloc (Nat.le_refl _) (.cells #[] 43)
  have HS2 := Lib.hid ((h.below hal).below hal2)
  have HG2 := Lib.hid (only_belowS (only_belowS (only_refl w (some p)) hal) hal2)
  have HO2 := Lib.hid (show ((w.alloc NM).alloc (.cells #[] 43)).ownsRow (w.heap.size + 1) 43 2 (.slice (some ⟨w.heap.size + 1, 0, none⟩) 0 0) 0 [] from by
    have h := own_nilE (w.alloc NM) 43 2 (w.heap.size + 1) (by simp)
    rw [World.size_alloc] at h
    exact h)
  have HC2 := Lib.hid (show ∀ i, i < 7 → ((w.alloc NM).alloc (.cells #[] 43)).cell? ⟨w.heap.size, i, none⟩ = some (.string (namesD.getD i ⟨#[]⟩)) from fun i hi => by
    rw [hal2.cell (p := ⟨w.heap.size, i, none⟩) (by simp), hNM]
    have hr := Rw.new w 9 (namesD.map Value.string).toArray
    rw [hr.cell i]
    have : i < namesD.length := hi
    simp [this])
  have HNM := Lib.hid hNM
  clear hal hal2 hNM
  go_enter Try.func15, Try.ntmps15
  go_upto_region 3 with fail
  have hnm := HNM.out
  unfold namesD at hnm
  simp only [List.map_cons, List.map_nil] at hnm
  rw [← hnm]
  clear hnm
  generalize (w.alloc NM).alloc (.cells #[] 43) = W2 at *
  clear h
  go_wp2_with fail
  go_loopw [6, 7] (fun s6 s7 wr => ∃ (i k : Nat) (L : List (ByteArray × ByteArray)) (A2 : Option Addr) (c2 : Nat), i ≤ 7 ∧ k ≤ i ∧ L.length = k ∧ smallF L ∧ s7 = .int .i64 (i : Int) ∧ s6 = .slice A2 k c2 ∧ wr.ownsRow (w.heap.size + 1) 43 2 (.slice A2 k c2) k (L.flatMap encF) ∧ (∀ j, j < 7 → wr.cell? ⟨w.heap.size, j, none⟩ = some (.string (namesD.getD j ⟨#[]⟩))) ∧ SrcOK wr p A n c (K + 4000 * i) ∧ w.grownBy wr (some p)) (fun _ i _ => 7 - (intOf i).toNat)
  case atStart => exact ⟨0, 0, [], _, 0, by omega, by omega, rfl, fun f hf => (by cases hf), rfl, rfl, HO2.out, HC2.out, HS2.out, HG2.out⟩
  case round =>
    obtain ⟨i, k, L, A2, c2, hi, hk, hL, hsm, rfl, rfl, ho, hc, hs, hg⟩ := hrel
    have HL := Lib.hid hL
    have HSM := Lib.hid hsm
    have HO := Lib.hid ho
    have HCN := Lib.hid hc
    have HS := Lib.hid hs
    have HG := Lib.hid hg
    have hzr : w.heap.size + 1 ≤ wr.heap.size := by
      have h0 : w.heap.size < wr.heap.size := World.block_lt_of_cell? wr ⟨w.heap.size, 0, none⟩ (hc 0 (by omega))
      omega
    by_cases hlt : i < 7
    · have hki : (i : Int) < 7 := by omega
      have H1 := Lib.hid (one_any 2 hs (by omega) hn (by omega) (by omega))
      have hxz := namesD_small i hlt
      have hci := hc i hlt
      obtain ⟨xi, hxi⟩ : ∃ xi, namesD.getD i ⟨#[]⟩ = xi := ⟨_, rfl⟩
      rw [hxi] at hci hxz
      clear hxi hL hsm ho hc hs hg
      go_wp2_with (go_at_call 16; refine H1.out.mono ?_; rintro e w3 ⟨b, rfl, hs3, hg3⟩)
      · have HO3 := Lib.hid (own_src HO.out hg3 (by omega))
        have HG3 := Lib.hid (only_moreS HG.out hg3 (fun q e => by cases e; exact .inr rfl))
        have hc3 := cell_src hci hg3 (by omega)
        have hs3d := hs3.below (Below.refl w3.heap.size w3).drew
        have HAM := Lib.hid (among7_any (W := w3.drew) hs3d (by omega) hn)
        have hcw : w3.drew.cell? ⟨w.heap.size, i, none⟩ = some (.string xi) := hc3
        have halA := (Below.refl w3.drew.heap.size w3.drew).alloc (Nat.le_refl _) (.cells #[.int .i64 0, .int .i64 1, .int .i64 7, .int .i64 30, .int .i64 60, .int .i64 26, .int .i64 100] 2)
        have hcA := cell_al (O := (.cells #[.int .i64 0, .int .i64 1, .int .i64 7, .int .i64 30, .int .i64 60, .int .i64 26, .int .i64 100] 2)) hcw
        have HOA := Lib.hid (own_below (HO3.out.drew) halA)
        have HGA := Lib.hid (only_belowS (only_drew HG3.out) halA)
        have hzA : w.heap.size + 1 ≤ (w3.drew.alloc (.cells #[.int .i64 0, .int .i64 1, .int .i64 7, .int .i64 30, .int .i64 60, .int .i64 26, .int .i64 100] 2)).heap.size := by
          have h1 := hg3.size
          have h2 := halA.size
          have h3 : w3.drew.heap.size = w3.heap.size := rfl
          omega
        clear halA
        refine wp_region_held_drew (S := fun w' => w'.cell? ⟨w.heap.size, i, none⟩ = some (.string xi)) (by kernel_rfl) hcw (fun hHeld => ?_)
        refine wpAnyH_take (i := 0) (v := ?v0) rfl (by kernel_rfl) (by kernel_rfl) (by kernel_rfl) (fun _ _ _ h => h) (Or.inl ⟨by rfl, ?hy0⟩) (by assumption) ?rest0
        case hy0 => (intro w hSw; (try dsimp only at hSw); go_simp; try with_reducible rfl)
        case rest0 =>
        try simp only [Act.put, List.setIfInBounds_toArray, List.set_cons_zero, List.set_cons_succ]
        refine wpAnyH_take (i := 1) (v := ?v1) rfl (by kernel_rfl) (by kernel_rfl) (by kernel_rfl) (fun _ _ _ h => h) (Or.inl ⟨by rfl, ?hy1⟩) (by assumption) ?rest1
        case hy1 => (intro w hSw; (try dsimp only at hSw); go_simp; try with_reducible rfl)
        case rest1 =>
        try simp only [Act.put, List.setIfInBounds_toArray, List.set_cons_zero, List.set_cons_succ]
        refine wpAnyH_take (i := 2) (v := ?v2) rfl (by kernel_rfl) (by kernel_rfl) (by kernel_rfl) (fun _ _ _ h => h) (Or.inl ⟨by rfl, ?hy2⟩) (by assumption) ?rest2
        case hy2 => (intro w hSw; (try dsimp only at hSw); go_simp; try with_reducible rfl)
        case rest2 =>
        try simp only [Act.put, List.setIfInBounds_toArray, List.set_cons_zero, List.set_cons_succ]
        refine wpAnyH_take (i := 3) (v := ?v3) rfl (by kernel_rfl) (by kernel_rfl) (by kernel_rfl) (fun _ _ _ h => h) (Or.inl ⟨by rfl, ?hy3⟩) (by assumption) ?rest3
        case hy3 => (intro w hSw; (try dsimp only at hSw); go_simp; try with_reducible rfl)
        case rest3 =>
        try simp only [Act.put, List.setIfInBounds_toArray, List.set_cons_zero, List.set_cons_succ]
        refine wpAnyH_take (i := 4) (v := ?v4) rfl (by kernel_rfl) (by kernel_rfl) (by kernel_rfl) (fun _ _ _ h => h) (Or.inl ⟨by rfl, ?hy4⟩) (by assumption) ?rest4
        case hy4 => (intro w hSw; (try dsimp only at hSw); go_simp; try with_reducible rfl)
        case rest4 =>
        try simp only [Act.put, List.setIfInBounds_toArray, List.set_cons_zero, List.set_cons_succ]
        refine wpAnyH_take (i := 5) (v := ?v5) rfl (by kernel_rfl) (by kernel_rfl) (by kernel_rfl) (fun _ _ _ h => h) (Or.inl ⟨by rfl, ?hy5⟩) (by assumption) ?rest5
        case hy5 => (intro w hSw; (try dsimp only at hSw); go_simp; try with_reducible rfl)
        case rest5 =>
        try simp only [Act.put, List.setIfInBounds_toArray, List.set_cons_zero, List.set_cons_succ]
        refine wpAnyH_take (i := 6) (v := ?v6) rfl (by kernel_rfl) (by kernel_rfl) (by kernel_rfl) (fun _ _ _ h => h) (Or.inl ⟨by rfl, ?hy6⟩) (by assumption) ?rest6
        case hy6 => (intro w hSw; (try dsimp only at hSw); go_simp; try with_reducible rfl)
        case rest6 =>
        try simp only [Act.put, List.setIfInBounds_toArray, List.set_cons_zero, List.set_cons_succ]
        refine wpAnyH_ready (rs := [7]) (by kernel_rfl) (by simp) ?_
        refine AllReadyH.cons rfl (fun K hK => ?_) AllReadyH.nil
        go_simp
        refine hK.out _ _ (hcA) (fun hHeld => ?_)
        clear hK K
        try simp only [Act.put, List.setIfInBounds_toArray, List.set_cons_zero, List.set_cons_succ]
        refine wpAnyH_ready (rs := [8]) (by kernel_rfl) (by simp) ?_
        refine AllReadyH.cons rfl (fun K hK => ?_) AllReadyH.nil
        go_simp; go_at_call 34; refine HAM.out.mono ?_; rintro e w4 ⟨z, hz, rfl, hs4, hg4⟩; have hc4 := cell_src hcA hg4 (by omega); have HO4 := Lib.hid (own_src HOA.out hg4 (by omega)); have HG4 := only_moreS HGA.out hg4 (fun q e => by cases e; exact .inr rfl)
        refine hK.out _ _ (hc4) (fun hHeld => ?_)
        clear hK K
        try simp only [Act.put, List.setIfInBounds_toArray, List.set_cons_zero, List.set_cons_succ]
        refine wpAnyH_ready (rs := [9]) (by kernel_rfl) (by simp) ?_
        refine AllReadyH.cons rfl (fun K hK => ?_) AllReadyH.nil
        go_simp; go_at_call 33; refine (drawData_any z hs4 (by omega) hn hz).mono ?_; rintro e w5 ⟨x, hx, rfl, hs5, hg5⟩; have hc5 := cell_src hc4 hg5 (by omega); have HO5 := Lib.hid (own_src HO4.out hg5 (by omega)); have HG5 := only_moreS HG4 hg5 (fun q e => by cases e; exact .inr rfl); have hz5 : w.heap.size + 1 ≤ w5.heap.size := Nat.le_trans hzA (Nat.le_trans hg4.size hg5.size)
        refine hK.out _ _ (hc5) (fun hHeld => ?_)
        clear hK K
        try simp only [Act.put, List.setIfInBounds_toArray, List.set_cons_zero, List.set_cons_succ]
        refine wpAnyH_take (i := 10) (v := ?v10) rfl (by kernel_rfl) (by kernel_rfl) (by kernel_rfl) (fun _ _ _ h => h) (Or.inl ⟨by rfl, ?hy10⟩) (by assumption) ?rest10
        case hy10 => (intro w hSw; (try dsimp only at hSw); go_simp; try with_reducible rfl)
        case rest10 =>
        try simp only [Act.put, List.setIfInBounds_toArray, List.set_cons_zero, List.set_cons_succ]
        have hc6 : (w5.alloc (.cells #[.string xi, .string x] 43)).cell? ⟨w.heap.size, i, none⟩ = some (.string xi) := by rw [((Below.refl w5.heap.size w5).alloc (Nat.le_refl _) _).cell (p := ⟨w.heap.size, i, none⟩) (by show w.heap.size < _; omega)]; exact hc5
        refine wpAnyH_ready (rs := [11]) (by kernel_rfl) (by simp) ?_
        refine AllReadyH.cons rfl (fun K hK => ?_) AllReadyH.nil
        go_simp
        refine hK.out _ _ (hc6) (fun hHeld => ?_)
        clear hK K
        try simp only [Act.put, List.setIfInBounds_toArray, List.set_cons_zero, List.set_cons_succ]
        refine wpAnyH_ready (rs := [12]) (by kernel_rfl) (by simp) ?_
        refine AllReadyH.cons rfl (fun K hK => ?_) AllReadyH.nil
        refine step_append_lies _ (by rfl) _ _ _ (by rfl) (w.heap.size + 1) 43 i0 _ 2 32 Try.underlying24 hi0 hi1 hi2 hi3 rfl (by omega) (.slice A2 k c2) k _ (by rfl) (HO5.out.alloc _) ⟨w5.heap.size, 0, none⟩ 1 1 [.string xi, .string x] (by rfl) (by rfl) (newsD w5 _ _ _) (by simp [Value.oneCell']) (by omega) (by simp only [maxLen]; omega) (by omega) (by simp; omega) _ rfl ?_
        intro gg cap w6 ho6 hgrow hat hlt6
        have hc7 := cell_own hc6 hgrow (by simp; omega) (fun e => by have := (HO5.out.lt _ e).1; omega)
        refine hK.out _ _ (hc7) (fun hHeld => ?_)
        clear hK K
        try simp only [Act.put, List.setIfInBounds_toArray, List.set_cons_zero, List.set_cons_succ]
        refine wpAnyH_take (i := 13) (v := ?v13) rfl (by kernel_rfl) (by kernel_rfl) (by kernel_rfl) (fun _ _ _ h => h) (Or.inl ⟨by rfl, ?hy13⟩) (by assumption) ?rest13
        case hy13 => (intro w hSw; (try dsimp only at hSw); go_simp; try with_reducible rfl)
        case rest13 =>
        try simp only [Act.put, List.setIfInBounds_toArray, List.set_cons_zero, List.set_cons_succ]
        refine wpAnyH_done (by kernel_rfl) ?_ _
        have hb6 := (Below.refl w5.heap.size w5).alloc (Nat.le_refl _) (.cells #[.string xi, .string x] 43)
        have hn6 : ∀ j, j < 7 → w6.cell? ⟨w.heap.size, j, none⟩ = some (.string (namesD.getD j ⟨#[]⟩)) := fun j hj => cell_own (cell_al (cell_src (cell_src (cell_al (w := w3.drew) (cell_src (p := p) (HCN.out j hj) (only_drew hg3) (by omega))) hg4 (by omega)) hg5 (by omega))) hgrow (by have := hb6.size; omega) (fun e => by have := (HO5.out.lt _ e).1; omega)
        have hs6 := ((hs5.below hb6).grown hgrow (fun e => by have := (HO5.out.lt _ e).1; omega) (fun q e => by have := (HO5.out.lt _ e).1; omega))
        have hg6 := only_moreS (only_belowS HG5 hb6) hgrow (fun q e => .inl (by have := (HO5.out.lt _ e).1; omega))
        go_wp2_with fail
        refine ⟨⟨i + 1, k + 1, L ++ [(xi, x)], some ⟨gg, 0, none⟩, cap, by omega, by omega, by rw [List.length_append, HL.out]; rfl, HSM.out.snoc hxz hx, by go_num, rfl, ?_, hn6, hs6.more (by omega), hg6⟩, by simp [intOf]; omega⟩
        rw [List.flatMap_append]
        exact ho6
      · have hc3 : ∀ j, j < 7 → w3.cell? ⟨w.heap.size, j, none⟩ = some (.string (namesD.getD j ⟨#[]⟩)) := fun j hj => cell_src (HCN.out j hj) hg3 (by omega)
        refine ⟨⟨i + 1, k, L, A2, c2, by omega, by omega, HL.out, HSM.out, by go_num, rfl, own_src HO.out hg3 (by omega), hc3, hs3.more (by omega), only_moreS HG.out hg3 (fun q e => by cases e; exact .inr rfl)⟩, by simp [intOf]; omega⟩
    · obtain rfl : i = 7 := by omega
      have H1 := Lib.hid (one_any m hs (by omega) hn (by omega) (by omega))
      clear hL hsm ho hc hs hg
      go_wp2_with (first
        | (go_at_call 16; refine H1.out.mono ?_; rintro e w3 ⟨b, rfl, hs3, hg3⟩; have HO3 := Lib.hid (own_src HO.out hg3 (by omega)); have HG3 := Lib.hid (only_moreS HG.out hg3 (fun q e => by cases e; exact .inr rfl)); have hz3 := Nat.le_trans hzr hg3.size)
        | (go_at_call 35; refine (text4_any hs3 (by omega) hn).mono ?_; rintro e w4 ⟨x1, hx1, rfl, hs4, hg4⟩; have hb4 := (Below.refl w3.heap.size w3).alloc (Nat.le_refl _) (.cells #[.string ⟨#[65]⟩, .string ⟨#[108, 111, 119]⟩, .string ⟨#[]⟩, .string ⟨#[90, 90]⟩] 9); have HO4 := Lib.hid (own_src (own_below HO3.out hb4) hg4 (by omega)); have HG4 := only_moreS (only_belowS HG3.out hb4) hg4 (fun q e => by cases e; exact .inr rfl); have hz4 := Nat.le_trans (Nat.le_trans hz3 hb4.size) hg4.size)
        | (go_at_call 34; refine (among3_any hs4 (by omega) hn).mono ?_; rintro e w5 ⟨z, hz, rfl, hs5, hg5⟩; have hb5 := (Below.refl w4.heap.size w4).alloc (Nat.le_refl _) (.cells #[.int .i64 1, .int .i64 513, .int .i64 512] 2); have HO5 := Lib.hid (own_src (own_below HO4.out hb5) hg5 (by omega)); have HG5 := only_moreS (only_belowS HG4 hb5) hg5 (fun q e => by cases e; exact .inr rfl); have hz5 := Nat.le_trans (Nat.le_trans hz4 hb5.size) hg5.size)
        | (go_at_call 33; refine (drawData_any z hs5 (by omega) hn hz).mono ?_; rintro e w6 ⟨x, hx, rfl, hs6, hg6⟩; have HO6 := Lib.hid (own_src HO5.out hg6 (by omega)); have HG6 := only_moreS HG5 hg6 (fun q e => by cases e; exact .inr rfl); have hz6 := Nat.le_trans hz5 hg6.size)
        | (at_builtin; refine wpList_pushT (.tmp 34) (.tmp 44) 24 (w.heap.size + 1) 43 (.agg #[.string ⟨#[]⟩, .string ⟨#[]⟩]) [.string x1, .string x] 2 32 _ k _ HO6.out rfl rfl Try.underlying24 infoFD rfl (by omega) rfl rfl rfl rfl (by intro u hu; simp at hu; rcases hu with rfl | rfl <;> rfl) (by omega) (by omega) hz6 ?_; intro A7 c7 w7 ho7 hg7))
      · go_ret
        have hs7 := hs6.grown hg7 (fun e => by have := (HO6.out.lt _ e).1; omega) (fun q e => by have := (HO6.out.lt _ e).1; omega)
        have hg8 := only_moreS HG6 hg7 (fun q e => .inl (by have := (HO6.out.lt _ e).1; omega))
        have hl := HL.out
        refine ⟨L ++ [(x1, x)], some A7, c7, by rw [List.length_append, hl]; simp; omega, HSM.out.snoc hx1 hx, by rw [List.length_append, hl]; rfl, ?_, hs7.more (by omega), hg8⟩
        have hr : FileR (w.heap.size + 1) w7 (some A7) c7 (L ++ [(x1, x)]) := by
          unfold FileR
          rw [List.length_append, hl, List.flatMap_append]
          exact ho7
        exact hr.base (by omega)
      · go_ret
        have hl := HL.out
        subst hl
        have hr : FileR (w.heap.size + 1) w3 A2 c2 L := HO3.out
        exact ⟨L, A2, c2, by omega, HSM.out, rfl, hr.base (by omega), hs3.more (by omega), HG3.out⟩
end Go.Proofs.Ytdofpkdemmngeaa
