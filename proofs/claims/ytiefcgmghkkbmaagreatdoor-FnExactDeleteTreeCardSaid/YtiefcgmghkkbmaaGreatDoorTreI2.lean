/-
  Trees: the program's walk: blocks entered.
-/
import Derived.Test.YtiefcgmghkkbmaaGreatDoorTreI
namespace Go.Proofs.YtiefcgmghkkbmaaGreatDoor
open Go Go.ChangeShapes Go.WideShapes Go.ChangeAt Go.RowKit lib
set_option linter.unusedVariables false
set_option linter.unusedSimpArgs false
set_option maxRecDepth 100000
theorem dir1_any {w : World} {g c d bx : Nat} {x : Nat → UInt8} (hr : BRow w 5 g 32 x) (hc : 32 ≤ c) (hd : d ≤ 1000) (hbx : w.cell? ⟨bx, 0, none⟩ = some (.int .i64 (d : Int))) (b : Bool) (hb : b = true ↔ tEnt x d) :
    Calls Tryz.prog 115 (#[.slice (some ⟨g, 0, none⟩) 32 c] ++ #[.pointer (some ⟨bx, 0, none⟩)]) w fun e w' => e = .returned (.bool b) ∧ Below w.heap.size w w' := by
  have HE := Lib.hid (isEntry_any hr hc hd b hb)
  clear hr hb
  go_enter Tryz.func115, Tryz.ntmps115
  go_wp2_with (go_at_call 116; refine HE.out.mono ?_; rintro e w1 ⟨rfl, hbl⟩)
  go_ret
  exact ⟨rfl, hbl⟩
theorem file1_any {w : World} {g c f k bx by_ : Nat} {x : Nat → UInt8} (hr : BRow w 5 g 32 x) (hc : 32 ≤ c) (hf : f ≤ 1000) (hk : k ≤ 1000) (hbx : w.cell? ⟨bx, 0, none⟩ = some (.int .i64 (f : Int))) (hby : w.cell? ⟨by_, 0, none⟩ = some (.int .i64 (k : Int))) (b : Bool) (hb : b = true ↔ tPart x f k) :
    Calls Tryz.prog 140 (#[.slice (some ⟨g, 0, none⟩) 32 c] ++ #[.pointer (some ⟨bx, 0, none⟩), .pointer (some ⟨by_, 0, none⟩)]) w fun e w' => e = .returned (.bool b) ∧ Below w.heap.size w w' := by
  have HE := Lib.hid (isPart_any hr hc hf hk b hb)
  clear hr hb
  go_enter Tryz.func140, Tryz.ntmps140
  go_wp2_with (go_at_call 141; refine HE.out.mono ?_; rintro e w1 ⟨rfl, hbl⟩)
  go_ret
  exact ⟨rfl, hbl⟩
set_option maxHeartbeats 4000000 in
theorem enterDir_any {w : World} {q gp gr n B B0 m b d bx : Nat} {bl cp : Nat → Nat} {u : Nat → Nat → UInt8} {S : TS} (h : WkW w q gp gr n B B0 m bl cp u S) (hB : B ≤ w.heap.size) (hn : n ≤ 128) (hl : S.pr.length ≤ 100000) (hb : b ≤ 255) (hd : d ≤ 1000) (hbx : w.cell? ⟨bx, 0, none⟩ = some (.int .i64 (d : Int))) :
    Calls Tryz.prog 114 #[.pointer (some ⟨q, 0, none⟩), .int .i64 b, .func (.func 115) #[] #[.pointer (some ⟨bx, 0, none⟩)]] w fun e w' => e = .returned (.bool (tEnter n u S b (tEnt (u b) d)).2) ∧ WkW w' q gp gr n B B0 m bl cp u (tEnter n u S b (tEnt (u b) d)).1 ∧ Kp wkT m B w w' ∧ ((tEnter n u S b (tEnt (u b) d)).2 = true → Kp [] m 0 w w') ∧ w'.cell? ⟨q, 3, none⟩ = w.cell? ⟨q, 3, none⟩ := by
  have HW := Lib.hid h
  have HQR := Lib.hid (show ∃ cs, Row w q 72 cs from by obtain ⟨⟨A1, c1, A2, c2, r1, _⟩, _⟩ := h; exact ⟨_, r1⟩)
  have HQL := Lib.hid (show q < w.heap.size from by obtain ⟨cs, r⟩ := HQR.out; exact r.lt)
  obtain ⟨k0, k1⟩ := h.ptr
  obtain ⟨cap, k2⟩ := h.tree.ptr
  have HPR := Lib.hid (fun (W : World) (hW : Below w.heap.size w W) (k : Nat) (hk : k ≤ 1000) => problem_any (h.below hW) (Nat.le_trans hB hW.size) hl hk (b := b) (by omega))
  have HSZ := Lib.hid (fun W => sizeBl_any (some ⟨gr, 0, none⟩) n cap W (by omega))
  have hlk : b < 1000 := by omega
  obtain ⟨cnt, hcnt, hset⟩ := h.seen
  have HLK := Lib.hid (hset.look (t := 69) Tryz.underlying2 Tryz.underlying69 Tryz.underlying4 (by rfl) b hlk)
  have HSET := Lib.hid hset
  have HCNT := Lib.hid hcnt
  clear h hset hlk hcnt hl
  unfold tEnter
  by_cases h1 : n ≤ b
  · have t1 : decide ((n : Int) ≤ (b : Int)) = true := by simp; omega
    rw [if_pos (Or.inl h1)]
    go_enter Tryz.func114, Tryz.ntmps114
    go_wp2_with (first | (go_at_call 93; refine (HSZ.out _).mono ?_; rintro e w' ⟨rfl, rfl⟩) | (go_at_call 91; refine (HPR.out _ (Below.refl _ _) 3 (by omega)).mono ?_; rintro e w1 ⟨rfl, hw1, hk1, hc1, _⟩))
    go_ret
    exact ⟨rfl, hw1, hk1, fun h => (by cases h), hc1⟩
  · have t1 : decide ((n : Int) ≤ (b : Int)) = false := by simp; omega
    have hbn : b < n := by omega
    have k3 := HW.out.tree.blk hbn
    have HR := Lib.hid (HW.out.tree.row hbn)
    have HC := Lib.hid (HW.out.tree.2 b hbn)
    have hbi : (b : Int) < (n : Int) := by omega
    have hlk := HLK.out
    cases hs : S.sn b with
    | true =>
      rw [if_pos (Or.inr rfl)]
      rw [hs] at hlk
      clear hs
      go_enter Tryz.func114, Tryz.ntmps114
      go_wp2_with (first | (go_at_call 93; refine (HSZ.out _).mono ?_; rintro e w' ⟨rfl, rfl⟩) | (go_at_call 91; refine (HPR.out _ (Below.refl _ _) 3 (by omega)).mono ?_; rintro e w1 ⟨rfl, hw1, hk1, hc1, _⟩))
      go_ret
      exact ⟨rfl, hw1, hk1, fun h => (by cases h), hc1⟩
    | false =>
      rw [if_neg (fun q => q.elim h1 (fun q => by cases q))]
      rw [hs] at hlk
      have HSN := Lib.hid hs
      clear hs
      obtain ⟨y, hy⟩ : ∃ y, (usum (u b) 32).toNat = y := ⟨_, rfl⟩
      have by0 : y < 256 := by rw [← hy]; exact UInt8.toNat_lt _
      obtain ⟨g, hg⟩ : ∃ g, bl b = g := ⟨_, rfl⟩
      obtain ⟨c, hcc⟩ : ∃ c, cp b = c := ⟨_, rfl⟩
      rw [hg] at HR
      rw [hcc] at HC
      rw [hg, hcc] at k3
      have HBS := Lib.hid (show Calls Tryz.prog 88 #[.slice (some ⟨g, 0, none⟩) 32 c] w fun e w' => e = .returned (.int .u8 (y : Int)) ∧ w = w' by rw [← hy]; exact byteSum_any _ 32 c (u b) w (by omega) HR.out.sl)
      have hyi : usum (u b) 32 ≠ 0 ↔ y ≠ 0 := by rw [Ne, u8_is 0 hy]; rfl
      have HYI := Lib.hid hyi
      clear hg hcc hy hyi
      by_cases hy : y = 0
      · have ty : ((y : Int) != 0) = false := by simp; omega
        rw [if_neg (fun q => HYI.out.1 q hy)]
        clear hy
        by_cases hok : tEnt (u b) d
        · rw [if_pos hok]
          have HCL := Lib.hid (dir1_any HR.out HC.out hd hbx true ⟨fun _ => hok, fun _ => rfl⟩)
          clear hok
          go_enter Tryz.func114, Tryz.ntmps114
          go_upto_region 1 with (first | (go_at_call 93; refine (HSZ.out _).mono ?_; rintro e w' ⟨rfl, rfl⟩) | (go_at_call 88; refine HBS.out.mono ?_; rintro e w' ⟨rfl, rfl⟩) | (go_at_call 115; refine HCL.out.mono ?_; rintro e w1 ⟨rfl, hbl⟩))
          have hset1 := HSET.out.below hbl
          obtain ⟨w2, hrun, hset2, hg2⟩ := hset1.store (t := 69) Tryz.underlying2 Tryz.underlying69 Tryz.underlying4 (by have := HCNT.out; simp only [maxLen]; omega) b (by omega) true
          obtain ⟨a1, a2⟩ := (HW.out.below hbl).visit hbn HSN.out HCNT.out hset1 hg2 hset2
          have A1 := Lib.hid a1
          have A2 := Lib.hid ((Kp.ofBelow hbl).trans a2)
          have A3 := Lib.hid ((Kp.ofBelow (T := []) (m := m) (B := 0) hbl).trans (kpMap hset1 hg2))
          have A4 := Lib.hid (World.cell?_of_block (a := ⟨q, 3, none⟩) (A3.out.block q HQL.out (.inr (by obtain ⟨cs, fr, r, _⟩ := HQR.out; exact .inl ⟨cs, _, fr, r, by simp⟩))))
          have k1' := (HW.out.below hbl).ptr.2
          clear hset1 hset2 hg2 a1 a2 hbl k0 k1 k2 k3
          go_wp2_with fail
          go_ret
          exact ⟨rfl, A1.out, A2.out, fun _ => A3.out, A4.out⟩
        · rw [if_neg hok]
          have HCL := Lib.hid (dir1_any HR.out HC.out hd hbx false ⟨fun h => (by cases h), fun h => absurd h hok⟩)
          clear hok
          go_enter Tryz.func114, Tryz.ntmps114
          go_wp2_with (first | (go_at_call 93; refine (HSZ.out _).mono ?_; rintro e w' ⟨rfl, rfl⟩) | (go_at_call 88; refine HBS.out.mono ?_; rintro e w' ⟨rfl, rfl⟩) | (go_at_call 115; refine HCL.out.mono ?_; rintro e w1 ⟨rfl, hbl⟩) | (go_at_call 91; refine (HPR.out _ hbl 2 (by omega)).mono ?_; rintro e w2 ⟨rfl, hw1, hk1, hc1, _⟩))
          go_ret
          exact ⟨rfl, hw1, (Kp.ofBelow hbl).trans hk1, fun h => (by cases h), hc1.trans (hbl.cell (p := ⟨q, 3, none⟩) HQL.out)⟩
      · have ty : ((y : Int) != 0) = true := by simp; omega
        rw [if_pos (HYI.out.2 hy)]
        clear hy
        go_enter Tryz.func114, Tryz.ntmps114
        go_wp2_with (first | (go_at_call 93; refine (HSZ.out _).mono ?_; rintro e w' ⟨rfl, rfl⟩) | (go_at_call 88; refine HBS.out.mono ?_; rintro e w' ⟨rfl, rfl⟩) | (go_at_call 91; refine (HPR.out _ (Below.refl _ _) 1 (by omega)).mono ?_; rintro e w1 ⟨rfl, hw1, hk1, hc1, _⟩))
        go_ret
        exact ⟨rfl, hw1, hk1, fun h => (by cases h), hc1⟩
set_option maxHeartbeats 4000000 in
theorem enterFile_any {w : World} {q gp gr n B B0 m b f k bx by_ : Nat} {bl cp : Nat → Nat} {u : Nat → Nat → UInt8} {S : TS} (h : WkW w q gp gr n B B0 m bl cp u S) (hB : B ≤ w.heap.size) (hn : n ≤ 128) (hl : S.pr.length ≤ 100000) (hb : b ≤ 255) (hf : f ≤ 1000) (hk : k ≤ 1000) (hbx : w.cell? ⟨bx, 0, none⟩ = some (.int .i64 (f : Int))) (hby : w.cell? ⟨by_, 0, none⟩ = some (.int .i64 (k : Int))) :
    Calls Tryz.prog 114 #[.pointer (some ⟨q, 0, none⟩), .int .i64 b, .func (.func 140) #[] #[.pointer (some ⟨bx, 0, none⟩), .pointer (some ⟨by_, 0, none⟩)]] w fun e w' => e = .returned (.bool (tEnter n u S b (tPart (u b) f k)).2) ∧ WkW w' q gp gr n B B0 m bl cp u (tEnter n u S b (tPart (u b) f k)).1 ∧ Kp wkT m B w w' ∧ ((tEnter n u S b (tPart (u b) f k)).2 = true → Kp [] m 0 w w') ∧ w'.cell? ⟨q, 3, none⟩ = w.cell? ⟨q, 3, none⟩ := by
  have HW := Lib.hid h
  have HQR := Lib.hid (show ∃ cs, Row w q 72 cs from by obtain ⟨⟨A1, c1, A2, c2, r1, _⟩, _⟩ := h; exact ⟨_, r1⟩)
  have HQL := Lib.hid (show q < w.heap.size from by obtain ⟨cs, r⟩ := HQR.out; exact r.lt)
  obtain ⟨k0, k1⟩ := h.ptr
  obtain ⟨cap, k2⟩ := h.tree.ptr
  have HPR := Lib.hid (fun (W : World) (hW : Below w.heap.size w W) (k : Nat) (hk : k ≤ 1000) => problem_any (h.below hW) (Nat.le_trans hB hW.size) hl hk (b := b) (by omega))
  have HSZ := Lib.hid (fun W => sizeBl_any (some ⟨gr, 0, none⟩) n cap W (by omega))
  have hlk : b < 1000 := by omega
  obtain ⟨cnt, hcnt, hset⟩ := h.seen
  have HLK := Lib.hid (hset.look (t := 69) Tryz.underlying2 Tryz.underlying69 Tryz.underlying4 (by rfl) b hlk)
  have HSET := Lib.hid hset
  have HCNT := Lib.hid hcnt
  clear h hset hlk hcnt hl
  unfold tEnter
  by_cases h1 : n ≤ b
  · have t1 : decide ((n : Int) ≤ (b : Int)) = true := by simp; omega
    rw [if_pos (Or.inl h1)]
    go_enter Tryz.func114, Tryz.ntmps114
    go_wp2_with (first | (go_at_call 93; refine (HSZ.out _).mono ?_; rintro e w' ⟨rfl, rfl⟩) | (go_at_call 91; refine (HPR.out _ (Below.refl _ _) 3 (by omega)).mono ?_; rintro e w1 ⟨rfl, hw1, hk1, hc1, _⟩))
    go_ret
    exact ⟨rfl, hw1, hk1, fun h => (by cases h), hc1⟩
  · have t1 : decide ((n : Int) ≤ (b : Int)) = false := by simp; omega
    have hbn : b < n := by omega
    have k3 := HW.out.tree.blk hbn
    have HR := Lib.hid (HW.out.tree.row hbn)
    have HC := Lib.hid (HW.out.tree.2 b hbn)
    have hbi : (b : Int) < (n : Int) := by omega
    have hlk := HLK.out
    cases hs : S.sn b with
    | true =>
      rw [if_pos (Or.inr rfl)]
      rw [hs] at hlk
      clear hs
      go_enter Tryz.func114, Tryz.ntmps114
      go_wp2_with (first | (go_at_call 93; refine (HSZ.out _).mono ?_; rintro e w' ⟨rfl, rfl⟩) | (go_at_call 91; refine (HPR.out _ (Below.refl _ _) 3 (by omega)).mono ?_; rintro e w1 ⟨rfl, hw1, hk1, hc1, _⟩))
      go_ret
      exact ⟨rfl, hw1, hk1, fun h => (by cases h), hc1⟩
    | false =>
      rw [if_neg (fun q => q.elim h1 (fun q => by cases q))]
      rw [hs] at hlk
      have HSN := Lib.hid hs
      clear hs
      obtain ⟨y, hy⟩ : ∃ y, (usum (u b) 32).toNat = y := ⟨_, rfl⟩
      have by0 : y < 256 := by rw [← hy]; exact UInt8.toNat_lt _
      obtain ⟨g, hg⟩ : ∃ g, bl b = g := ⟨_, rfl⟩
      obtain ⟨c, hcc⟩ : ∃ c, cp b = c := ⟨_, rfl⟩
      rw [hg] at HR
      rw [hcc] at HC
      rw [hg, hcc] at k3
      have HBS := Lib.hid (show Calls Tryz.prog 88 #[.slice (some ⟨g, 0, none⟩) 32 c] w fun e w' => e = .returned (.int .u8 (y : Int)) ∧ w = w' by rw [← hy]; exact byteSum_any _ 32 c (u b) w (by omega) HR.out.sl)
      have hyi : usum (u b) 32 ≠ 0 ↔ y ≠ 0 := by rw [Ne, u8_is 0 hy]; rfl
      have HYI := Lib.hid hyi
      clear hg hcc hy hyi
      by_cases hy : y = 0
      · have ty : ((y : Int) != 0) = false := by simp; omega
        rw [if_neg (fun q => HYI.out.1 q hy)]
        clear hy
        by_cases hok : tPart (u b) f k
        · rw [if_pos hok]
          have HCL := Lib.hid (file1_any HR.out HC.out hf hk hbx hby true ⟨fun _ => hok, fun _ => rfl⟩)
          clear hok
          go_enter Tryz.func114, Tryz.ntmps114
          go_upto_region 1 with (first | (go_at_call 93; refine (HSZ.out _).mono ?_; rintro e w' ⟨rfl, rfl⟩) | (go_at_call 88; refine HBS.out.mono ?_; rintro e w' ⟨rfl, rfl⟩) | (go_at_call 140; refine HCL.out.mono ?_; rintro e w1 ⟨rfl, hbl⟩))
          have hset1 := HSET.out.below hbl
          obtain ⟨w2, hrun, hset2, hg2⟩ := hset1.store (t := 69) Tryz.underlying2 Tryz.underlying69 Tryz.underlying4 (by have := HCNT.out; simp only [maxLen]; omega) b (by omega) true
          obtain ⟨a1, a2⟩ := (HW.out.below hbl).visit hbn HSN.out HCNT.out hset1 hg2 hset2
          have A1 := Lib.hid a1
          have A2 := Lib.hid ((Kp.ofBelow hbl).trans a2)
          have A3 := Lib.hid ((Kp.ofBelow (T := []) (m := m) (B := 0) hbl).trans (kpMap hset1 hg2))
          have A4 := Lib.hid (World.cell?_of_block (a := ⟨q, 3, none⟩) (A3.out.block q HQL.out (.inr (by obtain ⟨cs, fr, r, _⟩ := HQR.out; exact .inl ⟨cs, _, fr, r, by simp⟩))))
          have k1' := (HW.out.below hbl).ptr.2
          clear hset1 hset2 hg2 a1 a2 hbl k0 k1 k2 k3
          go_wp2_with fail
          go_ret
          exact ⟨rfl, A1.out, A2.out, fun _ => A3.out, A4.out⟩
        · rw [if_neg hok]
          have HCL := Lib.hid (file1_any HR.out HC.out hf hk hbx hby false ⟨fun h => (by cases h), fun h => absurd h hok⟩)
          clear hok
          go_enter Tryz.func114, Tryz.ntmps114
          go_wp2_with (first | (go_at_call 93; refine (HSZ.out _).mono ?_; rintro e w' ⟨rfl, rfl⟩) | (go_at_call 88; refine HBS.out.mono ?_; rintro e w' ⟨rfl, rfl⟩) | (go_at_call 140; refine HCL.out.mono ?_; rintro e w1 ⟨rfl, hbl⟩) | (go_at_call 91; refine (HPR.out _ hbl 2 (by omega)).mono ?_; rintro e w2 ⟨rfl, hw1, hk1, hc1, _⟩))
          go_ret
          exact ⟨rfl, hw1, (Kp.ofBelow hbl).trans hk1, fun h => (by cases h), hc1.trans (hbl.cell (p := ⟨q, 3, none⟩) HQL.out)⟩
      · have ty : ((y : Int) != 0) = true := by simp; omega
        rw [if_pos (HYI.out.2 hy)]
        clear hy
        go_enter Tryz.func114, Tryz.ntmps114
        go_wp2_with (first | (go_at_call 93; refine (HSZ.out _).mono ?_; rintro e w' ⟨rfl, rfl⟩) | (go_at_call 88; refine HBS.out.mono ?_; rintro e w' ⟨rfl, rfl⟩) | (go_at_call 91; refine (HPR.out _ (Below.refl _ _) 1 (by omega)).mono ?_; rintro e w1 ⟨rfl, hw1, hk1, hc1, _⟩))
        go_ret
        exact ⟨rfl, hw1, hk1, fun h => (by cases h), hc1⟩
end Go.Proofs.YtiefcgmghkkbmaaGreatDoor
