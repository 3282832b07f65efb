/-
  Disks of chains: an entry is read, both sides.
-/
import Derived.Test.YtapkckpjeoedaaaGreatDoorEntP
import Derived.Test.YtapkckpjeoedaaaGreatDoorEntC
import Derived.Test.YtapkckpjeoedaaaGreatDoorSlInts
import Derived.Test.YtapkckpjeoedaaaGreatDoorShelf
import Derived.Deep.DeepCutAuto
namespace Go.Proofs.YtapkckpjeoedaaaGreatDoor
open Go Go.ChangeShapes Go.WideShapes Go.ChangeAt Go.RowKit lib
set_option linter.unusedVariables false
set_option maxRecDepth 100000
/-- how an entry's reading ends -/
def EntOut (r : Ending) (w w' : World) (v : Nat → UInt8) : Prop := ∃ b : Bool, (b = true ↔ okE v) ∧ r = .returned (.tuple #[(entryOf v).val, .bool b]) ∧ Below w.heap.size w w'
theorem u8_eq (x : UInt8) (k : Nat) (hk : k < 256) : ((x.toNat : Int) == (k : Int)) = (x == UInt8.ofNat k) := by
  rw [Bool.eq_iff_iff]
  simp only [beq_iff_eq]
  rw [← UInt8.toNat_inj, UInt8.toNat_ofNat']
  omega
theorem rowset5 {w : World} {g e : Nat} {a0 a1 a2 a3 a4 : Value} (h : Rw w g e #[a0, a1, a2, a3, a4]) (v0 v1 v2 v3 v4 : Value) :
    (w.setCell ⟨g, 0, none⟩ v0).cell? ⟨g, 0, none⟩ = some v0 ∧ ((w.setCell ⟨g, 0, none⟩ v0).setCell ⟨g, 1, none⟩ v1).cell? ⟨g, 1, none⟩ = some v1 ∧ (((w.setCell ⟨g, 0, none⟩ v0).setCell ⟨g, 1, none⟩ v1).setCell ⟨g, 2, none⟩ v2).cell? ⟨g, 2, none⟩ = some v2 ∧ ((((w.setCell ⟨g, 0, none⟩ v0).setCell ⟨g, 1, none⟩ v1).setCell ⟨g, 2, none⟩ v2).setCell ⟨g, 3, none⟩ v3).cell? ⟨g, 3, none⟩ = some v3 ∧ (((((w.setCell ⟨g, 0, none⟩ v0).setCell ⟨g, 1, none⟩ v1).setCell ⟨g, 2, none⟩ v2).setCell ⟨g, 3, none⟩ v3).setCell ⟨g, 4, none⟩ v4).cell? ⟨g, 4, none⟩ = some v4 :=
  ⟨(h.set 0 v0).cell 0, ((h.set 0 v0).set 1 v1).cell 1, (((h.set 0 v0).set 1 v1).set 2 v2).cell 2, ((((h.set 0 v0).set 1 v1).set 2 v2).set 3 v3).cell 3, (((((h.set 0 v0).set 1 v1).set 2 v2).set 3 v3).set 4 v4).cell 4⟩
set_option maxHeartbeats 4000000 in
theorem implEntry_any {w : World} {p g n z e d t N c : Nat} {u : Nat → UInt8} (k at' : Nat) (h : ChW w p g n z e d t N c u) (ha : d * z + k * 12 = at') (hN : at' + 12 ≤ N) (hNb : N ≤ 1048576) (hcN : N ≤ c) (hk : k ≤ 1024) :
    Calls Tryz.prog 72 #[.pointer (some ⟨p, 0, none⟩), .int .i64 k] w fun r w' => EntOut r w w' (fun i => u (at' + i)) := by
  obtain ⟨v, hv⟩ : ∃ v : Nat → UInt8, v = fun i => u (at' + i) := ⟨_, rfl⟩
  have hvi : ∀ i, u (at' + i) = v i := fun i => by rw [hv]
  rw [← hv]
  obtain ⟨t', ht'⟩ := trimAt_ex v
  have hle := ht'.le
  have HT := Lib.hid (trim_name ht')
  have HF : (okAt v t' → okE v ∧ entryOf v = entAt v t') ∧ (¬ okAt v t' → ¬ okE v) := ⟨fun q => by
    obtain ⟨h1, h2⟩ := okAt_trim ht' q
    exact ⟨h1, by rw [entryOf_ok h1, h2]⟩, fun q h => q (okE_trim ht' h).1⟩
  have HFF := Lib.hid HF
  clear HF ht' hv
  obtain ⟨x8, h8⟩ : ∃ x, x = (v 8).toNat := ⟨_, rfl⟩
  obtain ⟨x9, h9⟩ : ∃ x, x = (v 9).toNat := ⟨_, rfl⟩
  obtain ⟨x10, h10⟩ : ∃ x, x = (v 10).toNat := ⟨_, rfl⟩
  obtain ⟨us, hus⟩ : ∃ b, b = (v 11 == 1) := ⟨_, rfl⟩
  obtain ⟨de, hde⟩ : ∃ b, b = (v 11 == 2) := ⟨_, rfl⟩
  have b8 : x8 < 256 := by rw [h8]; exact (v 8).toNat_lt
  have b9 : x9 < 256 := by rw [h9]; exact (v 9).toNat_lt
  have b10 : x10 < 256 := by rw [h10]; exact (v 10).toNat_lt
  obtain ⟨X, hX⟩ : ∃ X, X = bstr t' v := ⟨_, rfl⟩
  have hent : entAt v t' = ⟨X, x8, x9 * 256 + x10, us, de⟩ := by unfold entAt; rw [← h8, ← h9, ← h10, ← hus, ← hde, ← hX]
  have HE := Lib.hid hent
  have hXs : X.size ≤ 8 := by rw [hX, bstr_size]; exact hle
  obtain ⟨x11, h11⟩ : ∃ x : Int, x = ((v 11).toNat : Int) := ⟨_, rfl⟩
  have q1 : (x11 == 1) = us := by rw [h11, hus]; exact u8_eq (v 11) 1 (by omega)
  have q2 : (x11 == 2) = de := by rw [h11, hde]; exact u8_eq (v 11) 2 (by omega)
  obtain ⟨C, hC, hC12⟩ : ∃ C, c - at' = C ∧ 12 ≤ C := ⟨_, rfl, by omega⟩
  have hC8 : (8 : Int) ≤ (C : Int) := by omega
  have hsl : ∀ W : World, BRow W 5 g N u → (convert 63 9 (.slice (some ⟨g, at', none⟩) 8 C)).run Tryz.prog W = .ok (.string (bstr 8 v)) W := fun W hW =>
    run_bstr (P := Tryz.prog) (w := W) (B := W.heap.size) 63 9 5 Tryz.underlying63 Tryz.underlying5 Tryz.underlying9 (u := v) (fun i hi => ⟨g, at', rfl, hW.lt, by rw [hW.cell (i := at' + i) (by omega), hvi]⟩) (by simp)
  have hrow := h.below ((Below.refl _ _).alloc (Nat.le_refl _) (.cells #[.string ⟨#[]⟩, .int .i64 0, .int .i64 0, .bool false, .bool false] 82))
  have hor : bits .or .i64 ((x9 : Int) * 256) (x10 : Int) = ((x9 * 256 + x10 : Nat) : Int) := by
    rw [show ((x9 : Int) * 256) = ((x9 * 256 : Nat) : Int) by omega, i64_or _ _ (by omega) (by omega), shl_or _ _ b9 b10]
  have c8 : (w.alloc (.cells #[.string ⟨#[]⟩, .int .i64 0, .int .i64 0, .bool false, .bool false] 82)).cell? ⟨g, at' + 8, none⟩ = some (.int .u8 (x8 : Int)) := by rw [hrow.row.cell (by omega), hvi, h8]
  have c9 : (w.alloc (.cells #[.string ⟨#[]⟩, .int .i64 0, .int .i64 0, .bool false, .bool false] 82)).cell? ⟨g, at' + 9, none⟩ = some (.int .u8 (x9 : Int)) := by rw [hrow.row.cell (by omega), hvi, h9]
  have c10 : (w.alloc (.cells #[.string ⟨#[]⟩, .int .i64 0, .int .i64 0, .bool false, .bool false] 82)).cell? ⟨g, at' + 10, none⟩ = some (.int .u8 (x10 : Int)) := by rw [hrow.row.cell (by omega), hvi, h10]
  have c11 : (w.alloc (.cells #[.string ⟨#[]⟩, .int .i64 0, .int .i64 0, .bool false, .bool false] 82)).cell? ⟨g, at' + 11, none⟩ = some (.int .u8 x11) := by rw [hrow.row.cell (by omega), hvi, h11]
  have hcv := hsl (w.alloc (.cells #[.string ⟨#[]⟩, .int .i64 0, .int .i64 0, .bool false, .bool false] 82)).drew.drew hrow.row.drew.drew
  have hrow2 : ∀ O2 : Obj, ChW ((w.alloc (.cells #[.string ⟨#[]⟩, .int .i64 0, .int .i64 0, .bool false, .bool false] 82)).alloc O2) p g n z e d t N c u := fun O2 => h.below (((Below.refl _ _).alloc (Nat.le_refl _) (.cells #[.string ⟨#[]⟩, .int .i64 0, .int .i64 0, .bool false, .bool false] 82)).alloc (by simp) O2)
  have hd : ∀ O2 : Obj, ((w.alloc (.cells #[.string ⟨#[]⟩, .int .i64 0, .int .i64 0, .bool false, .bool false] 82)).alloc O2).cell? ⟨g, at' + 8, none⟩ = some (.int .u8 (x8 : Int)) ∧ ((w.alloc (.cells #[.string ⟨#[]⟩, .int .i64 0, .int .i64 0, .bool false, .bool false] 82)).alloc O2).cell? ⟨g, at' + 9, none⟩ = some (.int .u8 (x9 : Int)) ∧ ((w.alloc (.cells #[.string ⟨#[]⟩, .int .i64 0, .int .i64 0, .bool false, .bool false] 82)).alloc O2).cell? ⟨g, at' + 10, none⟩ = some (.int .u8 (x10 : Int)) ∧ ((w.alloc (.cells #[.string ⟨#[]⟩, .int .i64 0, .int .i64 0, .bool false, .bool false] 82)).alloc O2).cell? ⟨g, at' + 11, none⟩ = some (.int .u8 x11) ∧ (convert 63 9 (.slice (some ⟨g, at', none⟩) 8 C)).run Tryz.prog ((w.alloc (.cells #[.string ⟨#[]⟩, .int .i64 0, .int .i64 0, .bool false, .bool false] 82)).alloc O2).drew.drew = .ok (.string (bstr 8 v)) ((w.alloc (.cells #[.string ⟨#[]⟩, .int .i64 0, .int .i64 0, .bool false, .bool false] 82)).alloc O2).drew.drew := fun O2 =>
    ⟨by rw [(hrow2 O2).row.cell (by omega), hvi, h8], by rw [(hrow2 O2).row.cell (by omega), hvi, h9], by rw [(hrow2 O2).row.cell (by omega), hvi, h10], by rw [(hrow2 O2).row.cell (by omega), hvi, h11], hsl _ (hrow2 O2).row.drew.drew⟩
  have HD := Lib.hid hd
  have e8 : IntKind.i64.wrap (x8 : Int) = (x8 : Int) := by rw [IntKind.wrap_i64]; omega
  have e9 : IntKind.i64.wrap (x9 : Int) = (x9 : Int) := by rw [IntKind.wrap_i64]; omega
  have e9' : IntKind.i64.wrap ((x9 : Int) * 256) = (x9 : Int) * 256 := by rw [IntKind.wrap_i64]; omega
  have e10 : IntKind.i64.wrap (x10 : Int) = (x10 : Int) := by rw [IntKind.wrap_i64]; omega
  have hcv2 := hsl ((w.alloc (.cells #[.string ⟨#[]⟩, .int .i64 0, .int .i64 0, .bool false, .bool false] 82)).alloc (.cells #[.string ⟨#[]⟩, .int .i64 0, .int .i64 0, .bool false, .bool false] 82)).drew.drew (hrow2 _).row.drew.drew
  have heb := implEntryBytes_any k at' hrow ha hN hNb hcN hk
  rw [hC] at heb
  have HEB := Lib.hid heb
  have HR := Lib.hid hrow
  have HA := Lib.hid ha
  have HVI := Lib.hid hvi
  have H8 := Lib.hid h8
  have H9 := Lib.hid h9
  have H10 := Lib.hid h10
  have H11 := Lib.hid h11
  have HUS := Lib.hid hus
  have HDE := Lib.hid hde
  clear hrow2 hd heb hC hsl ha hvi h8 h9 h10 h11 hus hde hrow hent
  have hfin : ∀ x : Int, x = ((x9 * 256 + x10 : Nat) : Int) → Rw ((w.alloc (.cells #[.string ⟨#[]⟩, .int .i64 0, .int .i64 0, .bool false, .bool false] 82)).alloc (.cells #[.string (bstr t' v), .int .i64 (x8 : Int), .int .i64 x, .bool us, .bool de] 82)).drew.drew w.heap.size 82 #[.string ⟨#[]⟩, .int .i64 0, .int .i64 0, .bool false, .bool false] ∧ Rw ((w.alloc (.cells #[.string ⟨#[]⟩, .int .i64 0, .int .i64 0, .bool false, .bool false] 82)).alloc (.cells #[.string (bstr t' v), .int .i64 (x8 : Int), .int .i64 x, .bool us, .bool de] 82)).drew.drew (w.heap.size + 1) 82 #[.string (bstr t' v), .int .i64 (x8 : Int), .int .i64 ((x9 * 256 + x10 : Nat) : Int), .bool us, .bool de] ∧ Below w.heap.size w ((w.alloc (.cells #[.string ⟨#[]⟩, .int .i64 0, .int .i64 0, .bool false, .bool false] 82)).alloc (.cells #[.string (bstr t' v), .int .i64 (x8 : Int), .int .i64 x, .bool us, .bool de] 82)).drew.drew := fun x hx => by
    subst hx
    refine ⟨((Rw.new w _ _).alloc _).drew.drew, ?_, (((Below.refl _ _).alloc (Nat.le_refl _) _).alloc (by simp) _).drew.drew⟩
    have := Rw.new (w.alloc (.cells #[.string ⟨#[]⟩, .int .i64 0, .int .i64 0, .bool false, .bool false] 82)) 82 #[.string (bstr t' v), .int .i64 (x8 : Int), .int .i64 ((x9 * 256 + x10 : Nat) : Int), .bool us, .bool de]
    rw [World.size_alloc] at this
    exact this.drew.drew
  have HFI := Lib.hid hfin
  have HCH := Lib.hid h
  clear h hfin
  go_enter Tryz.func72, Tryz.ntmps72
  go_upto_region 2 with (go_at_call 63; refine HEB.out.mono ?_; rintro e3 w3 ⟨rfl, rfl⟩)
  go_cut [7] (fun s7 wx => s7 = .pointer (some ⟨w.heap.size + 1, 0, none⟩) ∧ Rw wx w.heap.size 82 #[.string ⟨#[]⟩, .int .i64 0, .int .i64 0, .bool false, .bool false] ∧ Rw wx (w.heap.size + 1) 82 #[.string (bstr t' v), .int .i64 (x8 : Int), .int .i64 ((x9 * 256 + x10 : Nat) : Int), .bool us, .bool de] ∧ Below w.heap.size w wx)
  case first =>
    go_region_held3 (fun w' => w'.cell? ⟨g, at' + 8, none⟩ = some (.int .u8 (x8 : Int)) ∧ w'.cell? ⟨g, at' + 9, none⟩ = some (.int .u8 (x9 : Int)) ∧ w'.cell? ⟨g, at' + 10, none⟩ = some (.int .u8 (x10 : Int)) ∧ w'.cell? ⟨g, at' + 11, none⟩ = some (.int .u8 x11) ∧ (convert 63 9 (.slice (some ⟨g, at', none⟩) 8 C)).run Tryz.prog w' = .ok (.string (bstr 8 v)) w')
      (first | exact ⟨c8, c9, c10, c11, hcv⟩ | exact HD.out _ | exact c8 | exact c9 | exact c10 | exact c11 | exact (HD.out _).1 | exact (HD.out _).2.1 | exact (HD.out _).2.2.1 | exact (HD.out _).2.2.2.1 | exact hcv | exact (HD.out _).2.2.2.2) ((go_at_call 107; refine (Tryz.strings_TrimRight_one _ 0 (by decide) _ (by rw [bstr_size]; omega)).mono ?_; rw [HT.out]; rintro e w' ⟨rfl, rfl⟩))
    all_goals
      go_wp2_with fail
      go_meet
      exact ⟨rfl, HFI.out _ (by omega)⟩
  case rest =>
    obtain ⟨rfl, hr1, hr2, hB⟩ := hcut
    have hCX := HCH.out.below hB
    obtain ⟨L, hL⟩ : ∃ L, L = x9 * 256 + x10 := ⟨_, rfl⟩
    rw [← hL, ← hX] at hr2
    have HE2 : Hid (entAt v t' = ⟨X, x8, L, us, de⟩) := Lib.hid (by rw [hL]; exact HE.out)
    have HVI2 := Lib.hid (fun (W : World) (hW : ChW W p g n z e d t N c u) (i : Nat) (hi : i < 12) => (show W.cell? ⟨g, at' + i, none⟩ = some (.int .u8 ((v i).toNat : Int)) by rw [hW.row.cell (by omega), HVI.out i]))
    have hb00 := hB.size
    have q0 := hr2.cell 0; have q1 := hr2.cell 1; have q2 := hr2.cell 2; have q3 := hr2.cell 3; have q4 := hr2.cell 4
    have k0 := hr1.cell 0; have f0 := hr1.frozen 0; have k1 := hr1.cell 1; have f1 := hr1.frozen 1; have k2 := hr1.cell 2; have f2 := hr1.frozen 2; have k3 := hr1.cell 3; have f3 := hr1.frozen 3; have k4 := hr1.cell 4; have f4 := hr1.frozen 4
    clear c8 c9 c10 c11 hcv hcv2 hL hX
    by_cases hV : validE X x8 L us de
    · obtain ⟨v1, v2, v3⟩ := validE_fit hV
      have HV := Lib.hid (fun w : World => implValid_any X x8 L us de (by omega) true (by simpa using hV) w)
      have HPE := Lib.hid (fun w : World => implPut_any X x8 L us de v1 (by omega) (by omega) w)
      unfold entV at HV HPE
      have HVV := Lib.hid hV
      clear hV
      have key : ∀ B : Bool, (B = true ↔ ∀ i, i < 12 → entB X x8 L us de i = v i) → (B = true ↔ okE v) ∧ entryOf v = if B then ⟨X, x8, L, us, de⟩ else ent0 := fun B hB => by
        have hok : okAt v t' ↔ B = true := by
          unfold okAt
          rw [HE2.out]
          exact ⟨fun q => hB.2 q.2, fun q => ⟨HVV.out, hB.1 q⟩⟩
        cases hBB : B with
        | true =>
          obtain ⟨h1, h2⟩ := HFF.out.1 (hok.2 hBB)
          exact ⟨by simpa using h1, by rw [h2, HE2.out]; rfl⟩
        | false =>
          have h1 := HFF.out.2 (fun q => by have := hok.1 q; rw [hBB] at this; cases this)
          exact ⟨by simpa using h1, by rw [entryOf_not h1]; rfl⟩
      obtain ⟨B, hBq⟩ : ∃ B : Bool, (B = true ↔ ∀ i, i < 12 → entB X x8 L us de i = v i) := by
        open Classical in
        exact ⟨decide _, decide_eq_true_iff⟩
      have HK := Lib.hid (key B hBq)
      have HBQ := Lib.hid hBq
      clear key hBq
      generalize entB X x8 L us de = V at *
      have HSE := Lib.hid (fun (W : World) (g2 : Nat) (hp2 : BRow W 5 g2 12 V) (hC2 : ChW W p g n z e d t N c u) => slEqual_any g2 0 g at' 12 12 C V v W (by omega) hp2.lt hC2.row.lt (fun i hi => by rw [Nat.zero_add]; exact hp2.cell hi) (HVI2.out _ hC2) B HBQ.out)
      clear HBQ
      cases B
      all_goals
        go_wp2_with (first
          | (go_at_call 108; refine (HV.out _).mono ?_; rintro e1 w1 ⟨rfl, hb1⟩; have hr11 := hr1.below hb1 hr1.lt; have hr21 := hr2.below hb1 hr2.lt; have hC1 := hCX.below hb1; have qa0 := hr21.cell 0; have qa1 := hr21.cell 1; have qa2 := hr21.cell 2; have qa3 := hr21.cell 3; have qa4 := hr21.cell 4; have ka0 := hr11.cell 0; have fa0 := hr11.frozen 0; have ka1 := hr11.cell 1; have fa1 := hr11.frozen 1; have ka2 := hr11.cell 2; have fa2 := hr11.frozen 2; have ka3 := hr11.cell 3; have fa3 := hr11.frozen 3; have ka4 := hr11.cell 4; have fa4 := hr11.frozen 4)
          | (go_at_call 64; refine (HPE.out _).mono ?_; rintro e2 w2 ⟨g2, rfl, hp2, hg2, hb2⟩; have hr12 := hr11.below hb2 hr11.lt; have hr22 := hr21.below hb2 hr21.lt; have hC2 := hC1.below hb2)
          | (go_at_call 109; refine (HSE.out _ g2 hp2 hC2).mono ?_; rintro e3 w3 ⟨rfl, hb3⟩; have hr13 := hr12.below hb3 hr12.lt; have hr23 := hr22.below hb3 hr22.lt; have qc0 := hr23.cell 0; have qc1 := hr23.cell 1; have qc2 := hr23.cell 2; have qc3 := hr23.cell 3; have qc4 := hr23.cell 4; have kc0 := hr13.cell 0; have fc0 := hr13.frozen 0; have kc1 := hr13.cell 1; have fc1 := hr13.frozen 1; have kc2 := hr13.cell 2; have fc2 := hr13.frozen 2; have kc3 := hr13.cell 3; have fc3 := hr13.frozen 3; have kc4 := hr13.cell 4; have fc4 := hr13.frozen 4))
        have hB3 := (((hB.trans (hb1.mono hb00)).trans (hb2.mono (Nat.le_trans hb00 hb1.size))).trans (hb3.mono (Nat.le_trans hb00 (Nat.le_trans hb1.size hb2.size))))
        obtain ⟨ka, kb⟩ := HK.out
      · have hrs := rowset5 hr13 (.string ⟨#[]⟩) (.int .i64 0) (.int .i64 0) (.bool false) (.bool false)
        refine bodyPost_ret (v := .tuple #[ent0.val, .bool false]) (by simp [results, Tryz.results72, go_sem, Ent.val, entV, ent0, hrs]) rfl ⟨false, by simpa using ka, by rw [kb]; rfl, ?_⟩
        exact ((((hB3.setCell (Nat.le_refl _) _).setCell (Nat.le_refl _) _).setCell (Nat.le_refl _) _).setCell (Nat.le_refl _) _).setCell (Nat.le_refl _) _
      · have hrs := rowset5 hr13 (.string X) (.int .i64 x8) (.int .i64 L) (.bool us) (.bool de)
        refine bodyPost_ret (v := .tuple #[entV X x8 L us de, .bool true]) (by simp [results, Tryz.results72, go_sem, entV, hrs]) rfl ⟨true, by simpa using ka, by rw [kb]; rfl, ?_⟩
        exact ((((hB3.setCell (Nat.le_refl _) _).setCell (Nat.le_refl _) _).setCell (Nat.le_refl _) _).setCell (Nat.le_refl _) _).setCell (Nat.le_refl _) _
    · have HV := Lib.hid (fun w : World => implValid_any X x8 L us de (by omega) false (by simpa using hV) w)
      unfold entV at HV
      have key : ¬ okE v ∧ entryOf v = ent0 := by
        have h1 := HFF.out.2 (fun q => hV (by have := q.1; rw [HE2.out] at this; exact this))
        exact ⟨h1, entryOf_not h1⟩
      have HK := Lib.hid key
      clear key hV
      go_wp2_with (first
          | (go_at_call 108; refine (HV.out _).mono ?_; rintro e1 w1 ⟨rfl, hb1⟩; have hr11 := hr1.below hb1 hr1.lt; have hr21 := hr2.below hb1 hr2.lt; have hC1 := hCX.below hb1; have qa0 := hr21.cell 0; have qa1 := hr21.cell 1; have qa2 := hr21.cell 2; have qa3 := hr21.cell 3; have qa4 := hr21.cell 4; have ka0 := hr11.cell 0; have fa0 := hr11.frozen 0; have ka1 := hr11.cell 1; have fa1 := hr11.frozen 1; have ka2 := hr11.cell 2; have fa2 := hr11.frozen 2; have ka3 := hr11.cell 3; have fa3 := hr11.frozen 3; have ka4 := hr11.cell 4; have fa4 := hr11.frozen 4))
      have hB3 := hB.trans (hb1.mono hb00)
      obtain ⟨ka, kb⟩ := HK.out
      have hrs := rowset5 hr11 (.string ⟨#[]⟩) (.int .i64 0) (.int .i64 0) (.bool false) (.bool false)
      refine bodyPost_ret (v := .tuple #[ent0.val, .bool false]) (by simp [results, Tryz.results72, go_sem, Ent.val, entV, ent0, hrs]) rfl ⟨false, by simpa using ka, by rw [kb], ?_⟩
      exact ((((hB3.setCell (Nat.le_refl _) _).setCell (Nat.le_refl _) _).setCell (Nat.le_refl _) _).setCell (Nat.le_refl _) _).setCell (Nat.le_refl _) _
end Go.Proofs.YtapkckpjeoedaaaGreatDoor
