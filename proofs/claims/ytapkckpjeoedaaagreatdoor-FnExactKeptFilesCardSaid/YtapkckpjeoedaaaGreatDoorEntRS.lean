/-
  Disks of chains: an entry is read: the reference's side.
-/
import Derived.Test.YtapkckpjeoedaaaGreatDoorEntRW
import Derived.Test.YtapkckpjeoedaaaGreatDoorEntRQ
namespace Go.Proofs.YtapkckpjeoedaaaGreatDoor
open Go Go.ChangeShapes Go.WideShapes Go.ChangeAt Go.RowKit lib
set_option linter.unusedVariables false
set_option maxRecDepth 100000
theorem bstr_beq (n : Nat) (x y : Nat → UInt8) (B : Bool) (hB : B = true ↔ ∀ i, i < n → x i = y i) : ((bstr n x).toList == (bstr n y).toList) = B := by
  rw [Bool.eq_iff_iff, beq_iff_eq, toList_iff, hB]
  constructor
  · intro h i hi
    rw [← bstr_at (v := x) hi, h, bstr_at hi]
  · exact bstr_congr
set_option maxHeartbeats 4000000 in
theorem specEntry_any {w : World} {p g n z e d t N c : Nat} {u : Nat → UInt8} (k at' : Nat) (h : ChW w p g n z e d t N c u) (ha : d * z + k * 12 = at') (hN : at' + 12 ≤ N) (hNb : N ≤ 1048576) (hcN : N ≤ c) (hk : k ≤ 1024) :
    Calls Tryz.prog 68 #[.pointer (some ⟨p, 0, none⟩), .int .i64 k] w fun r w' => EntOut r w w' (fun i => u (at' + i)) := by
  obtain ⟨v, hv⟩ : ∃ v : Nat → UInt8, v = fun i => u (at' + i) := ⟨_, rfl⟩
  have hvi : ∀ i, u (at' + i) = v i := fun i => by rw [hv]
  rw [← hv]
  clear hv
  obtain ⟨D, hD⟩ : ∃ D, d * z = D := ⟨_, rfl⟩
  have e1 : (d : Int) * z = (D : Int) := by rw [← hD]; simp
  have e2 : IntKind.i64.wrap (D : Int) = (D : Int) := by rw [IntKind.wrap_i64]; omega
  have e3 : (D : Int) + (k : Int) * 12 = (at' : Int) := by omega
  have e4 : IntKind.i64.wrap (at' : Int) = (at' : Int) := by rw [IntKind.wrap_i64]; omega
  have e5 : IntKind.i64.wrap ((k : Int) * 12) = (k : Int) * 12 := by rw [IntKind.wrap_i64]; omega
  have e6 : IntKind.i64.wrap ((at' : Int) + 12) = (at' : Int) + 12 := by rw [IntKind.wrap_i64]; omega
  have i1 : (0 : Int) ≤ (at' : Int) + 12 := by omega
  have i2 : (at' : Int) + 12 ≤ c := by omega
  have i3 : ((at' : Int) + 12).toNat = at' + 12 := by omega
  have i4 : at' ≤ at' + 12 := by omega
  have i5 : at' + 12 - at' = 12 := by omega
  have i6 : (c = at') = False := by simp; omega
  have hrow := h.below ((Below.refl _ _).alloc (Nat.le_refl _) (.cells #[.string ⟨#[]⟩, .int .i64 0, .int .i64 0, .bool false, .bool false] 82))
  have h1 := hrow.c1
  have h3 := hrow.c3
  have h5 := hrow.c5
  have HR := Lib.hid hrow
  have HCH := Lib.hid h
  have HVI := Lib.hid hvi
  clear hD ha h hrow hvi
  go_enter Tryz.func68, Tryz.ntmps68
  go_wp2_with fail
  go_region
  go_wp2_with fail
  go_loopw [8] (fun s8 wr => ∃ m : Nat, m ≤ 8 ∧ s8 = .int .i64 m ∧ (∀ i, i < m → v i ≠ 0) ∧ wr = (w.alloc (.cells #[.string ⟨#[]⟩, .int .i64 0, .int .i64 0, .bool false, .bool false] 82)).drew) (fun s _ => 8 - (intOf s).toNat)
  case atStart => exact ⟨0, by omega, rfl, fun i hi => absurd hi (by omega), rfl⟩
  case round =>
    obtain ⟨m, hm, rfl, hq, rfl⟩ := hrel
    have HQ := Lib.hid hq
    clear hq
    obtain ⟨C, hC, hC12⟩ : ∃ C, c - at' = C ∧ 12 ≤ C := ⟨_, rfl, by omega⟩
    rw [hC]
    clear i6 i5 i4 i3 i2 i1 e1 e2 e3 e5 e6
    by_cases hgo : m < 8 ∧ v m ≠ 0
    · have hc1 := HR.out.row.cell (i := at' + m) (by have := hgo.1; omega)
      rw [HVI.out m] at hc1
      have q0 : (m : Int) < 8 := by omega
      have q1 : (((v m).toNat : Int) != 0) = true := by
        rw [bne_iff_ne]
        intro h
        exact hgo.2 (UInt8.toNat_inj.1 (by simpa using h))
      have q2 : ((v m).toNat = 0) = False := by
        simp only [eq_iff_iff, iff_false]
        intro h
        exact hgo.2 (UInt8.toNat_inj.1 (by simpa using h))
      have HG := Lib.hid hgo
      clear hgo
      go_wp2
      exact ⟨⟨m + 1, by omega, by go_num, fun i hi => by
        rcases Nat.lt_or_ge i m with h | h
        · exact HQ.out i h
        · obtain rfl : i = m := by omega
          exact HG.out.2, trivial⟩, by simp [intOf]; omega⟩
    · have hnul : NulAt v m := ⟨hm, HQ.out, by
        rcases Nat.lt_or_ge m 8 with h | h
        · by_cases hv : v m = 0
          · exact .inr hv
          · exact absurd ⟨h, hv⟩ hgo
        · exact .inl (by omega)⟩
      have hnm : nmLen v = m := nulAt_uniq (nmLen_at v) hnul
      have HNM := Lib.hid hnm
      obtain ⟨x8, h8⟩ : ∃ x, x = (v 8).toNat := ⟨_, rfl⟩
      obtain ⟨x9, h9⟩ : ∃ x, x = (v 9).toNat := ⟨_, rfl⟩
      obtain ⟨x10, h10⟩ : ∃ x, x = (v 10).toNat := ⟨_, rfl⟩
      obtain ⟨us, hus⟩ : ∃ b, b = (v 11 == 1) := ⟨_, rfl⟩
      obtain ⟨de, hde⟩ : ∃ b, b = (v 11 == 2) := ⟨_, rfl⟩
      have b8 : x8 < 256 := by rw [h8]; exact (v 8).toNat_lt
      have b9 : x9 < 256 := by rw [h9]; exact (v 9).toNat_lt
      have b10 : x10 < 256 := by rw [h10]; exact (v 10).toNat_lt
      obtain ⟨X, hX⟩ : ∃ X, X = bstr m v := ⟨_, rfl⟩
      obtain ⟨L, hL⟩ : ∃ L, L = x9 * 256 + x10 := ⟨_, rfl⟩
      have hent : entAt v m = ⟨X, x8, L, us, de⟩ := by unfold entAt; rw [← h8, ← h9, ← h10, ← hus, ← hde, ← hX, ← hL]
      have HE := Lib.hid hent
      have hXs : X.size ≤ 8 := by rw [hX, bstr_size]; exact hm
      obtain ⟨x11, h11⟩ : ∃ x : Int, x = ((v 11).toNat : Int) := ⟨_, rfl⟩
      have s1 : (x11 == 1) = us := by rw [h11, hus]; exact u8_eq (v 11) 1 (by omega)
      have s2 : (x11 == 2) = de := by rw [h11, hde]; exact u8_eq (v 11) 2 (by omega)
      have hCX : (m : Int) ≤ (C : Int) := by omega
      have hm0 : (0 : Int) ≤ (m : Int) := by omega
      have hslX : ∀ W : World, BRow W 5 g N u → (convert 63 9 (.slice (some ⟨g, at', none⟩) m C)).run Tryz.prog W = .ok (.string X) W := fun W hW => by
        rw [hX]
        exact run_bstr (P := Tryz.prog) (w := W) (B := W.heap.size) 63 9 5 Tryz.underlying63 Tryz.underlying5 Tryz.underlying9 (u := v) (fun i hi => ⟨g, at', rfl, hW.lt, by rw [hW.cell (i := at' + i) (by omega), HVI.out]⟩) (by simp)
      have hsl12 : ∀ (W : World) (C : Nat), BRow W 5 g N u → (convert 63 9 (.slice (some ⟨g, at', none⟩) 12 C)).run Tryz.prog W = .ok (.string (bstr 12 v)) W := fun W C hW => by
        exact run_bstr (P := Tryz.prog) (w := W) (B := W.heap.size) 63 9 5 Tryz.underlying63 Tryz.underlying5 Tryz.underlying9 (u := v) (fun i hi => ⟨g, at', rfl, hW.lt, by rw [hW.cell (i := at' + i) (by omega), HVI.out]⟩) (by simp)
      have hsg2 : ∀ (W : World) (g2 : Nat) (V : Nat → UInt8), BRow W 5 g2 12 V → (convert 63 9 (.slice (some ⟨g2, 0, none⟩) 12 12)).run Tryz.prog W = .ok (.string (bstr 12 V)) W := fun W g2 V hW => by
        exact run_bstr (P := Tryz.prog) (w := W) (B := W.heap.size) 63 9 5 Tryz.underlying63 Tryz.underlying5 Tryz.underlying9 (u := V) (fun i hi => ⟨g2, 0, rfl, hW.lt, by rw [Nat.zero_add]; exact hW.cell hi⟩) (by simp)
      have hrow2 : ∀ O2 : Obj, ChW ((w.alloc (.cells #[.string ⟨#[]⟩, .int .i64 0, .int .i64 0, .bool false, .bool false] 82)).alloc O2) p g n z e d t N c u := fun O2 => HCH.out.below (((Below.refl _ _).alloc (Nat.le_refl _) (.cells #[.string ⟨#[]⟩, .int .i64 0, .int .i64 0, .bool false, .bool false] 82)).alloc (by simp) O2)
      have hrow1 := HR.out
      have c8 : (w.alloc (.cells #[.string ⟨#[]⟩, .int .i64 0, .int .i64 0, .bool false, .bool false] 82)).cell? ⟨g, at' + 8, none⟩ = some (.int .u8 (x8 : Int)) := by rw [hrow1.row.cell (by omega), HVI.out, h8]
      have c9 : (w.alloc (.cells #[.string ⟨#[]⟩, .int .i64 0, .int .i64 0, .bool false, .bool false] 82)).cell? ⟨g, at' + 9, none⟩ = some (.int .u8 (x9 : Int)) := by rw [hrow1.row.cell (by omega), HVI.out, h9]
      have c10 : (w.alloc (.cells #[.string ⟨#[]⟩, .int .i64 0, .int .i64 0, .bool false, .bool false] 82)).cell? ⟨g, at' + 10, none⟩ = some (.int .u8 (x10 : Int)) := by rw [hrow1.row.cell (by omega), HVI.out, h10]
      have c11 : (w.alloc (.cells #[.string ⟨#[]⟩, .int .i64 0, .int .i64 0, .bool false, .bool false] 82)).cell? ⟨g, at' + 11, none⟩ = some (.int .u8 x11) := by rw [hrow1.row.cell (by omega), HVI.out, h11]
      have hd : ∀ O2 : Obj, ((w.alloc (.cells #[.string ⟨#[]⟩, .int .i64 0, .int .i64 0, .bool false, .bool false] 82)).alloc O2).cell? ⟨g, at' + 8, none⟩ = some (.int .u8 (x8 : Int)) ∧ ((w.alloc (.cells #[.string ⟨#[]⟩, .int .i64 0, .int .i64 0, .bool false, .bool false] 82)).alloc O2).cell? ⟨g, at' + 9, none⟩ = some (.int .u8 (x9 : Int)) ∧ ((w.alloc (.cells #[.string ⟨#[]⟩, .int .i64 0, .int .i64 0, .bool false, .bool false] 82)).alloc O2).cell? ⟨g, at' + 10, none⟩ = some (.int .u8 (x10 : Int)) ∧ ((w.alloc (.cells #[.string ⟨#[]⟩, .int .i64 0, .int .i64 0, .bool false, .bool false] 82)).alloc O2).cell? ⟨g, at' + 11, none⟩ = some (.int .u8 x11) ∧ (convert 63 9 (.slice (some ⟨g, at', none⟩) m C)).run Tryz.prog ((w.alloc (.cells #[.string ⟨#[]⟩, .int .i64 0, .int .i64 0, .bool false, .bool false] 82)).alloc O2).drew.drew = .ok (.string X) ((w.alloc (.cells #[.string ⟨#[]⟩, .int .i64 0, .int .i64 0, .bool false, .bool false] 82)).alloc O2).drew.drew := fun O2 =>
        ⟨by rw [(hrow2 O2).row.cell (by omega), HVI.out, h8], by rw [(hrow2 O2).row.cell (by omega), HVI.out, h9], by rw [(hrow2 O2).row.cell (by omega), HVI.out, h10], by rw [(hrow2 O2).row.cell (by omega), HVI.out, h11], hslX _ (hrow2 O2).row.drew.drew⟩
      have HD := Lib.hid hd
      have hcv := hslX (w.alloc (.cells #[.string ⟨#[]⟩, .int .i64 0, .int .i64 0, .bool false, .bool false] 82)).drew.drew hrow1.row.drew.drew
      have hcv2 := hslX ((w.alloc (.cells #[.string ⟨#[]⟩, .int .i64 0, .int .i64 0, .bool false, .bool false] 82)).alloc (.cells #[.string ⟨#[]⟩, .int .i64 0, .int .i64 0, .bool false, .bool false] 82)).drew.drew (hrow2 _).row.drew.drew
      have f8 : IntKind.i64.wrap (x8 : Int) = (x8 : Int) := by rw [IntKind.wrap_i64]; omega
      have f9 : IntKind.i64.wrap (x9 : Int) = (x9 : Int) := by rw [IntKind.wrap_i64]; omega
      have f9' : IntKind.i64.wrap (256 * (x9 : Int)) = 256 * (x9 : Int) := by rw [IntKind.wrap_i64]; omega
      have f10 : IntKind.i64.wrap (x10 : Int) = (x10 : Int) := by rw [IntKind.wrap_i64]; omega
      have fL : IntKind.i64.wrap (256 * (x9 : Int) + (x10 : Int)) = (L : Int) := by rw [IntKind.wrap_i64, hL]; omega
      have hfin : Rw ((w.alloc (.cells #[.string ⟨#[]⟩, .int .i64 0, .int .i64 0, .bool false, .bool false] 82)).alloc (.cells #[.string X, .int .i64 (x8 : Int), .int .i64 (L : Int), .bool us, .bool de] 82)).drew.drew w.heap.size 82 #[.string ⟨#[]⟩, .int .i64 0, .int .i64 0, .bool false, .bool false] ∧ Rw ((w.alloc (.cells #[.string ⟨#[]⟩, .int .i64 0, .int .i64 0, .bool false, .bool false] 82)).alloc (.cells #[.string X, .int .i64 (x8 : Int), .int .i64 (L : Int), .bool us, .bool de] 82)).drew.drew (w.heap.size + 1) 82 #[.string X, .int .i64 (x8 : Int), .int .i64 (L : Int), .bool us, .bool de] ∧ Below w.heap.size w ((w.alloc (.cells #[.string ⟨#[]⟩, .int .i64 0, .int .i64 0, .bool false, .bool false] 82)).alloc (.cells #[.string X, .int .i64 (x8 : Int), .int .i64 (L : Int), .bool us, .bool de] 82)).drew.drew := by
        refine ⟨((Rw.new w _ _).alloc _).drew.drew, ?_, (((Below.refl _ _).alloc (Nat.le_refl _) _).alloc (by simp) _).drew.drew⟩
        have := Rw.new (w.alloc (.cells #[.string ⟨#[]⟩, .int .i64 0, .int .i64 0, .bool false, .bool false] 82)) 82 #[.string X, .int .i64 (x8 : Int), .int .i64 (L : Int), .bool us, .bool de]
        rw [World.size_alloc] at this
        exact this.drew.drew
      have HFI := Lib.hid hfin
      have H12 := Lib.hid hsl12
      have HG2 := Lib.hid hsg2
      clear hfin hd hrow2 hrow1 hslX hsl12 hsg2 h8 h9 h10 h11 hus hde hent hnul hnm hX hL
      have hcase : (m : Int) < 8 ∧ (((v m).toNat : Int) != 0) = false ∧ (w.alloc (.cells #[.string ⟨#[]⟩, .int .i64 0, .int .i64 0, .bool false, .bool false] 82)).cell? ⟨g, at' + m, none⟩ = some (.int .u8 ((v m).toNat : Int)) ∨ ¬ (m : Int) < 8 := by
        by_cases h : m < 8
        · left
          have hv : v m = 0 := by
            by_cases hv : v m = 0
            · exact hv
            · exact absurd ⟨h, hv⟩ hgo
          exact ⟨by omega, by rw [hv]; rfl, by rw [HR.out.row.cell (by omega), HVI.out]⟩
        · right; omega
      clear hgo
      rcases hcase with ⟨g1, g2, g3⟩ | g1
      all_goals
        go_upto_region 6 with fail
        go_cut [9] (fun s9 wx => s9 = .pointer (some ⟨w.heap.size + 1, 0, none⟩) ∧ Rw wx w.heap.size 82 #[.string ⟨#[]⟩, .int .i64 0, .int .i64 0, .bool false, .bool false] ∧ Rw wx (w.heap.size + 1) 82 #[.string X, .int .i64 (x8 : Int), .int .i64 (L : Int), .bool us, .bool de] ∧ Below w.heap.size w wx)
        case first =>
          go_region_held3 (fun w' => w'.cell? ⟨g, at' + 8, none⟩ = some (.int .u8 (x8 : Int)) ∧ w'.cell? ⟨g, at' + 9, none⟩ = some (.int .u8 (x9 : Int)) ∧ w'.cell? ⟨g, at' + 10, none⟩ = some (.int .u8 (x10 : Int)) ∧ w'.cell? ⟨g, at' + 11, none⟩ = some (.int .u8 x11) ∧ (convert 63 9 (.slice (some ⟨g, at', none⟩) m C)).run Tryz.prog w' = .ok (.string X) w')
            (first | exact ⟨c8, c9, c10, c11, hcv⟩ | exact HD.out _ | exact c8 | exact c9 | exact c10 | exact c11 | exact (HD.out _).1 | exact (HD.out _).2.1 | exact (HD.out _).2.2.1 | exact (HD.out _).2.2.2.1 | exact hcv | exact (HD.out _).2.2.2.2) (fail)
          all_goals
            go_wp2_with fail
            go_meet
            exact ⟨rfl, HFI.out⟩
        case rest =>
          obtain ⟨rfl, hr1, hr2, hB⟩ := hcut
          have hCX := HCH.out.below hB
          have hb00 := hB.size
          clear c8 c9 c10 c11 hcv hcv2
          try clear g3
          by_cases hV : validE X x8 L us de
          · obtain ⟨v1, v2, v3⟩ := validE_fit hV
            have HV := Lib.hid (fun (W : World) (hr : Rw W (w.heap.size + 1) 82 #[.string X, .int .i64 (x8 : Int), .int .i64 (L : Int), .bool us, .bool de]) => specValid_any (w.heap.size + 1) X x8 L us de (by omega) true (by simpa using hV) W hr)
            have HPE := Lib.hid (fun (W : World) (hr : Rw W (w.heap.size + 1) 82 #[.string X, .int .i64 (x8 : Int), .int .i64 (L : Int), .bool us, .bool de]) => specPut_any (w.heap.size + 1) X x8 L us de v1 (by omega) (by omega) W hr)
            have HVV := Lib.hid hV
            clear hV
            have key : ∀ B : Bool, (B = true ↔ ∀ i, i < 12 → entB X x8 L us de i = v i) → (B = true ↔ okE v) ∧ entryOf v = if B then ⟨X, x8, L, us, de⟩ else ent0 := fun B hB => by
              have hok : okE v ↔ B = true := by
                unfold okE okAt
                rw [HNM.out, HE.out]
                exact ⟨fun q => hB.2 q.2, fun q => ⟨HVV.out, hB.1 q⟩⟩
              cases hBB : B with
              | true =>
                have h1 := hok.2 hBB
                exact ⟨by simpa using h1, by rw [entryOf_ok h1, HNM.out, HE.out]; rfl⟩
              | false =>
                have h1 : ¬ okE v := fun q => by have := hok.1 q; rw [hBB] at this; cases this
                exact ⟨by simpa using h1, by rw [entryOf_not h1]; rfl⟩
            obtain ⟨B, hBq⟩ : ∃ B : Bool, (B = true ↔ ∀ i, i < 12 → entB X x8 L us de i = v i) := by
              open Classical in
              exact ⟨decide _, decide_eq_true_iff⟩
            have HK := Lib.hid (key B hBq)
            have HBQ := Lib.hid (bstr_beq 12 _ _ B hBq)
            clear key hBq
            generalize entB X x8 L us de = V at *
            have HR1 := Lib.hid hr1
            have HR2 := Lib.hid hr2
            clear hr1 hr2
            have hq12 := HBQ.out
            go_wp2_with fail
            go_region_with (first
              | (go_at_call 103; refine (HV.out _ HR2.out.drew).mono ?_; rintro e1 w1 ⟨rfl, hb1⟩; have hr11 := HR1.out.drew.below hb1 HR1.out.drew.lt; have hr21 := HR2.out.drew.below hb1 HR2.out.drew.lt; have hC1 := hCX.drew.below hb1; have hk1 := H12.out w1 C hC1.row)
              | (go_at_call 91; refine (HPE.out _ hr21).mono ?_; rintro e2 w2 ⟨g2, rfl, hp2, hg2, hb2⟩; have hr12 := hr11.below hb2 hr11.lt; have hr22 := hr21.below hb2 hr21.lt; have hC2 := hC1.below hb2; have hk2 := H12.out w2 C hC2.row; have hk3 := HG2.out w2 g2 V hp2; have kc0 := hr12.cell 0; have fkc0 := hr12.frozen 0; have kc1 := hr12.cell 1; have fkc1 := hr12.frozen 1; have kc2 := hr12.cell 2; have fkc2 := hr12.frozen 2; have kc3 := hr12.cell 3; have fkc3 := hr12.frozen 3; have kc4 := hr12.cell 4; have fkc4 := hr12.frozen 4; have qc0 := hr22.cell 0; have qc1 := hr22.cell 1; have qc2 := hr22.cell 2; have qc3 := hr22.cell 3; have qc4 := hr22.cell 4))
            all_goals
              cases B
              · go_wp2_with fail
                have hB3 := (hB.drew.trans (hb1.mono hB.drew.size)).trans (hb2.mono (Nat.le_trans hB.drew.size hb1.size))
                obtain ⟨ka, kb⟩ := HK.out
                have hrs := rowset5 hr12 (.string ⟨#[]⟩) (.int .i64 0) (.int .i64 0) (.bool false) (.bool false)
                refine bodyPost_ret (v := .tuple #[ent0.val, .bool false]) (by simp [results, Tryz.results68, go_sem, Ent.val, entV, ent0, hrs]) rfl ⟨false, by simpa using ka, by rw [kb]; rfl, ?_⟩
                exact ((((hB3.setCell (Nat.le_refl _) _).setCell (Nat.le_refl _) _).setCell (Nat.le_refl _) _).setCell (Nat.le_refl _) _).setCell (Nat.le_refl _) _
              · go_wp2_with fail
                have hB3 := (hB.drew.trans (hb1.mono hB.drew.size)).trans (hb2.mono (Nat.le_trans hB.drew.size hb1.size))
                obtain ⟨ka, kb⟩ := HK.out
                have hrs := rowset5 hr12 (.string X) (.int .i64 x8) (.int .i64 L) (.bool us) (.bool de)
                refine bodyPost_ret (v := .tuple #[entV X x8 L us de, .bool true]) (by simp [results, Tryz.results68, go_sem, entV, hrs]) rfl ⟨true, by simpa using ka, by rw [kb]; rfl, ?_⟩
                exact ((((hB3.setCell (Nat.le_refl _) _).setCell (Nat.le_refl _) _).setCell (Nat.le_refl _) _).setCell (Nat.le_refl _) _).setCell (Nat.le_refl _) _
          · have HV := Lib.hid (fun (W : World) (hr : Rw W (w.heap.size + 1) 82 #[.string X, .int .i64 (x8 : Int), .int .i64 (L : Int), .bool us, .bool de]) => specValidQ_any (w.heap.size + 1) X x8 L us de (by omega) false (by simpa using hV) W hr)
            have key : ¬ okE v ∧ entryOf v = ent0 := by
              have h1 : ¬ okE v := fun q => hV (by have := q.1; rw [HNM.out, HE.out] at this; exact this)
              exact ⟨h1, entryOf_not h1⟩
            have HK := Lib.hid key
            clear key hV
            have HR1 := Lib.hid hr1
            have HR2 := Lib.hid hr2
            clear hr2
            go_wp2_with fail
            go_quiet ((go_at_call 103; exact Calls.quiet_of (HV.out _ (HR2.out.drewN _))))
            have ka0 := hr1.cell 0; have fka0 := hr1.frozen 0; have ka1 := hr1.cell 1; have fka1 := hr1.frozen 1; have ka2 := hr1.cell 2; have fka2 := hr1.frozen 2; have ka3 := hr1.cell 3; have fka3 := hr1.frozen 3; have ka4 := hr1.cell 4; have fka4 := hr1.frozen 4
            go_wp2_with fail
            have hB3 := hB.drewN nq
            obtain ⟨ka, kb⟩ := HK.out
            have hrs := rowset5 (hr1.drewN nq) (.string ⟨#[]⟩) (.int .i64 0) (.int .i64 0) (.bool false) (.bool false)
            refine bodyPost_ret (v := .tuple #[ent0.val, .bool false]) (by simp [results, Tryz.results68, go_sem, Ent.val, entV, ent0, hrs]) rfl ⟨false, by simpa using ka, by rw [kb], ?_⟩
            exact ((((hB3.setCell (Nat.le_refl _) _).setCell (Nat.le_refl _) _).setCell (Nat.le_refl _) _).setCell (Nat.le_refl _) _).setCell (Nat.le_refl _) _
end Go.Proofs.YtapkckpjeoedaaaGreatDoor
