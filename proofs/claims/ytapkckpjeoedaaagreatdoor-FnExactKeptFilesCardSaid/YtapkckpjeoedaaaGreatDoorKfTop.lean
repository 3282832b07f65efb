/-
  Disks of chains: KeptFiles, both sides.
-/
import Derived.Test.YtapkckpjeoedaaaGreatDoorSfTop
namespace Go.Proofs.YtapkckpjeoedaaaGreatDoor
open Go Go.ChangeShapes Go.WideShapes Go.ChangeAt Go.RowKit lib
set_option linter.unusedVariables false
set_option maxRecDepth 100000
open Classical in
/-- the names of the files that another list has too -/
noncomputable def keptL (F G : List (ByteArray × ByteArray)) : List ByteArray := (F.filter fun f => decide (f ∈ G)).map Prod.fst
theorem keptL_nil (G : List (ByteArray × ByteArray)) : keptL [] G = [] := rfl
theorem keptL_len (F G : List (ByteArray × ByteArray)) : (keptL F G).length ≤ F.length := by
  unfold keptL
  rw [List.length_map]
  exact List.length_filter_le _ _
theorem keptL_in {F G : List (ByteArray × ByteArray)} {f : ByteArray × ByteArray} (h : f ∈ G) : keptL (F ++ [f]) G = keptL F G ++ [f.1] := by
  unfold keptL
  simp [List.filter_append, h]
theorem keptL_out {F G : List (ByteArray × ByteArray)} {f : ByteArray × ByteArray} (h : f ∉ G) : keptL (F ++ [f]) G = keptL F G := by
  unfold keptL
  simp [List.filter_append, h]
theorem take_snocF {F : List (ByteArray × ByteArray)} {k : Nat} (h : k < F.length) : F.take (k + 1) = F.take k ++ [((F.getD k (⟨#[]⟩, ⟨#[]⟩)).1, (F.getD k (⟨#[]⟩, ⟨#[]⟩)).2)] := by
  rw [List.take_add_one, List.getElem?_eq_getElem h, List.getD_eq_getElem?_getD, List.getElem?_eq_getElem h]
  rfl
theorem filS_fAt (L : List (ByteArray × ByteArray)) : filS (fAt L) L.length = L := by
  unfold filS
  apply List.ext_getElem
  · simp
  · intro i h1 h2
    simp only [List.getElem_map, List.getElem_range, fAt_name, fAt_data]
    simp [List.getD_eq_getElem?_getD, h2]
/-- at most one place holds a file -/
theorem incF_at {L : List (ByteArray × ByteArray)} (h : IncF L) {i j : Nat} (hi : i < L.length) (hj : j < L.length) (he : L.getD i (⟨#[]⟩, ⟨#[]⟩) = L.getD j (⟨#[]⟩, ⟨#[]⟩)) : i = j := by
  have hp := List.pairwise_iff_getElem.1 h
  simp only [List.getD_eq_getElem?_getD, List.getElem?_eq_getElem hi, List.getElem?_eq_getElem hj, Option.getD_some] at he
  rcases Nat.lt_trichotomy i j with h1 | h1 | h1
  · have := hp i j hi hj h1
    rw [he] at this
    exact absurd this (List.lt_irrefl _)
  · exact h1
  · have := hp j i hj hi h1
    rw [he] at this
    exact absurd this (List.lt_irrefl _)
/-- the reference's inner loop -/
def innK (L : List ByteArray) (f : ByteArray × ByteArray) (G : List (ByteArray × ByteArray)) : Nat → List ByteArray
  | 0 => L
  | k + 1 => if (G.getD k (⟨#[]⟩, ⟨#[]⟩)).1 = f.1 ∧ (G.getD k (⟨#[]⟩, ⟨#[]⟩)).2 = f.2 then innK L f G k ++ [f.1] else innK L f G k
theorem innK_len (L : List ByteArray) (f : ByteArray × ByteArray) (G : List (ByteArray × ByteArray)) : ∀ k, (innK L f G k).length ≤ L.length + k
  | 0 => Nat.le_refl _
  | k + 1 => by
    have := innK_len L f G k
    rw [innK]
    split
    · simp; omega
    · omega
open Classical in
theorem innK_all {L : List ByteArray} {f : ByteArray × ByteArray} {G : List (ByteArray × ByteArray)} (h : IncF G) : ∀ k, k ≤ G.length → innK L f G k = if ∃ j, j < k ∧ G.getD j (⟨#[]⟩, ⟨#[]⟩) = f then L ++ [f.1] else L
  | 0, _ => by rw [if_neg (fun ⟨j, hj, _⟩ => by omega)]; rfl
  | k + 1, hk => by
    have ih := innK_all (L := L) (f := f) h k (by omega)
    rw [innK]
    by_cases he : (G.getD k (⟨#[]⟩, ⟨#[]⟩)).1 = f.1 ∧ (G.getD k (⟨#[]⟩, ⟨#[]⟩)).2 = f.2
    · have he' : G.getD k (⟨#[]⟩, ⟨#[]⟩) = f := Prod.ext he.1 he.2
      rw [if_pos he, ih, if_neg, if_pos ⟨k, by omega, he'⟩]
      rintro ⟨j, hj, hjf⟩
      have := incF_at h (show j < G.length by omega) (show k < G.length by omega) (hjf.trans he'.symm)
      omega
    · rw [if_neg he, ih]
      have hiff : (∃ j, j < k ∧ G.getD j (⟨#[]⟩, ⟨#[]⟩) = f) ↔ (∃ j, j < k + 1 ∧ G.getD j (⟨#[]⟩, ⟨#[]⟩) = f) := by
        constructor
        · rintro ⟨j, hj, h1⟩; exact ⟨j, by omega, h1⟩
        · rintro ⟨j, hj, h1⟩
          rcases Nat.lt_or_ge j k with h2 | h2
          · exact ⟨j, h2, h1⟩
          · obtain rfl : j = k := by omega
            exact absurd ⟨by rw [h1], by rw [h1]⟩ he
      by_cases hx : ∃ j, j < k ∧ G.getD j (⟨#[]⟩, ⟨#[]⟩) = f
      · rw [if_pos hx, if_pos (hiff.1 hx)]
      · rw [if_neg hx, if_neg (fun q => hx (hiff.2 q))]
theorem innK_end {F G : List (ByteArray × ByteArray)} {k : Nat} (h : IncF G) (hk : k < F.length) : innK (keptL (F.take k) G) ((F.getD k (⟨#[]⟩, ⟨#[]⟩)).1, (F.getD k (⟨#[]⟩, ⟨#[]⟩)).2) G G.length = keptL (F.take (k + 1)) G := by
  rw [innK_all h _ (Nat.le_refl _), take_snocF hk]
  by_cases hm : ((F.getD k (⟨#[]⟩, ⟨#[]⟩)).1, (F.getD k (⟨#[]⟩, ⟨#[]⟩)).2) ∈ G
  · rw [keptL_in hm, if_pos]
    obtain ⟨j, hj, h1⟩ := List.mem_iff_getElem.1 hm
    exact ⟨j, hj, by rw [List.getD_eq_getElem?_getD, List.getElem?_eq_getElem hj]; exact h1⟩
  · rw [keptL_out hm, if_neg]
    rintro ⟨j, hj, h1⟩
    apply hm
    rw [← h1, List.getD_eq_getElem?_getD, List.getElem?_eq_getElem hj]
    exact List.getElem_mem hj
open Classical in
/-- how the listing of kept files ends -/
noncomputable def kfCode (n : Nat) (s : Nat → ByteArray) (m : Nat) (t : Nat → ByteArray) : Int := if opens n s then if opens m t then 0 else openCode m t else openCode n s
set_option maxHeartbeats 4000000 in
theorem implKept_ok {w : World} {n m c d : Nat} {A B : Option Addr} {s t : Nat → ByteArray} (hs : Sl w w.heap.size A n (fun i => .string (s i))) (hsz : ∀ i, i < n → (s i).size ≤ 9223372036854775807) (hn : n ≤ c) (hn2 : n ≤ 9223372036854775807)
    (ht : Sl w w.heap.size B m (fun i => .string (t i))) (htz : ∀ i, i < m → (t i).size ≤ 9223372036854775807) (hm : m ≤ d) (hm2 : m ≤ 9223372036854775807) (ho : opens n s) (ho2 : opens m t) :
    Calls Tryz.prog 20 #[.slice A n c, .slice B m d] w fun r w' => ∃ A c, r = .returned (.tuple #[.slice A (keptL (sfOf n s) (sfOf m t)).length c, .int .i64 0]) ∧ StrR w.heap.size w' A c (keptL (sfOf n s) (sfOf m t)) ∧ Below w.heap.size w w' := by
  have H1 := Lib.hid (implSoundFiles_any hs hsz hn hn2)
  have H2 := Lib.hid (fun (W : World) (hW : Below w.heap.size w W) => implSoundFiles_any (w := W) ((ht.below hW).more hW.size) htz hm hm2)
  have hFl := sfOf_len (s := s) (walk_fit ho.1).2.2.2.1
  have hGl := sfOf_len (s := t) (walk_fit ho2.1).2.2.2.1
  have HL := Lib.hid ho
  have HL2 := Lib.hid ho2
  unfold SfOut at H1 H2
  obtain ⟨F, hF⟩ : ∃ F, sfOf n s = F := ⟨_, rfl⟩
  obtain ⟨G, hG⟩ : ∃ G, sfOf m t = G := ⟨_, rfl⟩
  rw [hF] at H1 hFl ⊢
  rw [hG] at H2 hGl ⊢
  clear hs hsz ht htz ho ho2 hF hG
  go_enter Tryz.func20, Tryz.ntmps20
  go_upto_region 4 with (go_at_call 15; refine H1.out.mono ?_; rintro r w1 ⟨h1, _, hb1⟩; obtain ⟨A1, c1, rfl, ho1⟩ := h1 HL.out)
  have HF1 := Lib.hid ho1
  have HB1 := Lib.hid hb1
  clear ho1 hb1 h1
  go_upto_region 7 with (go_at_call 15; refine (H2.out _ HB1.out).mono ?_; rintro r w2 ⟨h2, _, hb2⟩; obtain ⟨A2, c2, rfl, ho2⟩ := h2 HL2.out)
  have HF2 := Lib.hid (HF1.out.below hb2)
  have HG2 := Lib.hid ho2
  have HB2 := Lib.hid (HB1.out.trans (hb2.mono HB1.out.size))
  have hz2 := HB2.out.size
  clear ho2 hb2 h2
  go_wp2_with fail
  go_loopw [9, 30] (fun s9 s30 wr => ∃ (k : Nat) (A' : Option Addr) (c' : Nat), k ≤ F.length ∧ s9 = .slice A' (keptL (F.take k) G).length c' ∧ s30 = .int .i64 k ∧ StrR w2.heap.size wr A' c' (keptL (F.take k) G) ∧ Below w2.heap.size w2 wr) (fun _ s _ => F.length - (intOf s).toNat)
  case atStart => exact ⟨0, none, 0, by omega, rfl, rfl, strR_nil _ _, Below.refl _ _⟩
  case round =>
    obtain ⟨k, A', c', hk, rfl, rfl, hst, hb⟩ := hrel
    have hbz := hb.size
    have HST := Lib.hid hst
    have HB := Lib.hid hb
    clear hst hb
    by_cases hlt : k < F.length
    · have hln := keptL_len (F.take k) G
      have hln2 : (F.take k).length ≤ k := by rw [List.length_take]; omega
      have HIN := Lib.hid (fun h => (show keptL (F.take (k + 1)) G = keptL (F.take k) G ++ [(F.getD k (⟨#[]⟩, ⟨#[]⟩)).1] by rw [take_snocF hlt]; exact keptL_in h))
      have HOUT := Lib.hid (fun h => (show keptL (F.take (k + 1)) G = keptL (F.take k) G by rw [take_snocF hlt]; exact keptL_out h))
      obtain ⟨L, hL⟩ : ∃ L, keptL (F.take k) G = L := ⟨_, rfl⟩
      rw [hL] at HST HIN HOUT hln ⊢
      obtain ⟨b', o, rfl, hbb, h0, h1⟩ := ((HF2.out.below HB.out).sl).two hlt
      rw [fAt_name] at h0
      rw [fAt_data] at h1
      obtain ⟨x, hx⟩ : ∃ x, (F.getD k (⟨#[]⟩, ⟨#[]⟩)).1 = x := ⟨_, rfl⟩
      obtain ⟨y, hy⟩ : ∃ y, (F.getD k (⟨#[]⟩, ⟨#[]⟩)).2 = y := ⟨_, rfl⟩
      rw [hx] at h0 HIN HOUT
      rw [hy] at h1 HIN HOUT
      have hal := (Below.refl wr.heap.size wr).alloc (Nat.le_refl _) (.cells #[.string x, .string y] 54)
      have hrr := Rw.new wr 54 #[.string x, .string y]
      have q0 := hrr.cell 0
      have q1 := hrr.cell 1
      have HRR := Lib.hid hrr
      have HBA := Lib.hid (HB.out.trans (hal.mono HB.out.size))
      have HSA := Lib.hid (HST.out.below hal)
      clear hal hrr hL hx hy
      obtain ⟨q, hq⟩ : ∃ q, wr.heap.size = q := ⟨_, rfl⟩
      rw [hq] at HRR q0 q1
      go_upto_region 11 with fail
      generalize wr.alloc (.cells #[.string x, .string y] 54) = W1 at *
      clear hq
      have hqw := HRR.out.lt
      have hWz := HBA.out.size
      have HCT := Lib.hid (slicesContainsFile_any A2 G.length c2 (fAt G) x y W1 (by omega) ((HG2.out.below HBA.out).sl))
      rw [filS_fAt] at HCT
      by_cases hmem : (x, y) ∈ G
      · have HN := Lib.hid (HIN.out hmem)
        have HMM := Lib.hid hmem
        clear hmem
        go_upto_region 12 with (go_at_call 36; refine HCT.out.mono ?_; rintro r w3 ⟨xb, rfl, hx, hb3⟩; obtain rfl : xb = true := hx.2 HMM.out)
        have hr3 := HRR.out.below hb3 hqw
        have z0 := hr3.cell 0
        have HB3 := Lib.hid (HBA.out.trans (hb3.mono hWz))
        have HS3 := Lib.hid (HSA.out.below hb3)
        have hz3 := HB3.out.size
        clear hr3 hb3 hx
        go_wp2_with (at_builtin; refine wpList_push (.tmp 37) (.tmp 40) 22 w2.heap.size 9 (.string .empty) _ 16 _ L.length _ HS3.out rfl rfl Tryz.underlying22 infoSt rfl rfl rfl rfl rfl (by omega) (by omega) hz3 ?_; intro A2 c2 w4 ho4 hb4)
        go_roundw
        case rel => exact ⟨k + 1, some A2, c2, by omega, by rw [HN.out]; simp, by go_num, by rw [HN.out]; simpa [StrR] using ho4, HB3.out.trans hb4⟩
        case measure => simp [intOf]; omega
      · have HN := Lib.hid (HOUT.out hmem)
        have HMM := Lib.hid hmem
        clear hmem
        go_wp2_with (go_at_call 36; refine HCT.out.mono ?_; rintro r w3 ⟨xb, rfl, hx, hb3⟩; obtain rfl : xb = false := by cases xb with | false => rfl | true => exact absurd (hx.1 rfl) HMM.out)
        go_roundw
        case rel => exact ⟨k + 1, A', c', by omega, by rw [HN.out], by go_num, by rw [HN.out]; exact HSA.out.below hb3, HBA.out.trans (hb3.mono hWz)⟩
        case measure => simp [intOf]; omega
    · obtain rfl : k = F.length := by omega
      rw [List.take_length] at HST ⊢
      go_wp2_with fail
      go_ret2
      exact ⟨A', c', rfl, own_base HST.out hz2, HB2.out.trans (HB.out.mono hz2)⟩
theorem implKept_bad {w : World} {n m c d : Nat} {A B : Option Addr} {s t : Nat → ByteArray} (hs : Sl w w.heap.size A n (fun i => .string (s i))) (hsz : ∀ i, i < n → (s i).size ≤ 9223372036854775807) (hn : n ≤ c) (hn2 : n ≤ 9223372036854775807)
    (ht : Sl w w.heap.size B m (fun i => .string (t i))) (htz : ∀ i, i < m → (t i).size ≤ 9223372036854775807) (hm : m ≤ d) (hm2 : m ≤ 9223372036854775807) (ho : ¬ (opens n s ∧ opens m t)) :
    Calls Tryz.prog 20 #[.slice A n c, .slice B m d] w fun r w' => r = .returned (.tuple #[.slice none 0 0, .int .i64 (kfCode n s m t)]) ∧ Below w.heap.size w w' := by
  have H1 := Lib.hid (implSoundFiles_any hs hsz hn hn2)
  have H2 := Lib.hid (fun (W : World) (hW : Below w.heap.size w W) => implSoundFiles_any (w := W) ((ht.below hW).more hW.size) htz hm hm2)
  unfold SfOut at H1 H2
  by_cases h1 : opens n s
  · have h2 : ¬ opens m t := fun h => ho ⟨h1, h⟩
    have hne := openCode_ne m t
    have HL := Lib.hid h1
    have HL2 := Lib.hid h2
    have HK := Lib.hid (show kfCode n s m t = openCode m t by unfold kfCode; rw [if_pos h1, if_neg h2])
    rw [HK.out]
    obtain ⟨code, hcode⟩ : ∃ code, openCode m t = code := ⟨_, rfl⟩
    rw [hcode] at hne ⊢
    have HCD := Lib.hid hcode
    clear ho hs hsz ht htz hcode h1 h2
    rcases hne with rfl | rfl
    all_goals
      go_enter Tryz.func20, Tryz.ntmps20
      go_upto_region 4 with (go_at_call 15; refine H1.out.mono ?_; rintro r w1 ⟨h1, _, hb1⟩; obtain ⟨A1, c1, rfl, ho1⟩ := h1 HL.out)
      have HB1 := Lib.hid hb1
      clear ho1 hb1 h1
      go_wp2_with (go_at_call 15; refine (H2.out _ HB1.out).mono ?_; rintro r w2 ⟨_, h2, hb2⟩; have h3 := h2 HL2.out; rw [HCD.out] at h3; subst h3; clear h2)
      go_ret2
      exact ⟨rfl, HB1.out.trans (hb2.mono HB1.out.size)⟩
  · have hne := openCode_ne n s
    have HL := Lib.hid h1
    have HK := Lib.hid (show kfCode n s m t = openCode n s by unfold kfCode; rw [if_neg h1])
    rw [HK.out]
    obtain ⟨code, hcode⟩ : ∃ code, openCode n s = code := ⟨_, rfl⟩
    rw [hcode] at hne ⊢
    have HCD := Lib.hid hcode
    clear ho hs hsz ht htz hcode h1
    rcases hne with rfl | rfl
    all_goals
      go_enter Tryz.func20, Tryz.ntmps20
      go_wp2_with (go_at_call 15; refine H1.out.mono ?_; rintro r w1 ⟨_, h1, hb1⟩; have h3 := h1 HL.out; rw [HCD.out] at h3; subst h3; clear h1)
      go_ret2
      exact ⟨rfl, hb1⟩
set_option maxHeartbeats 8000000 in
theorem specKept_ok {w : World} {n m c d : Nat} {A B : Option Addr} {s t : Nat → ByteArray} (hs : Sl w w.heap.size A n (fun i => .string (s i))) (hsz : ∀ i, i < n → (s i).size ≤ 9223372036854775807) (hn : n ≤ c) (hn2 : n ≤ 9223372036854775807)
    (ht : Sl w w.heap.size B m (fun i => .string (t i))) (htz : ∀ i, i < m → (t i).size ≤ 9223372036854775807) (hm : m ≤ d) (hm2 : m ≤ 9223372036854775807) (ho : opens n s) (ho2 : opens m t) :
    Calls Tryz.prog 19 #[.slice A n c, .slice B m d] w fun r w' => ∃ A c, r = .returned (.tuple #[.slice A (keptL (sfOf n s) (sfOf m t)).length c, .int .i64 0]) ∧ StrR w.heap.size w' A c (keptL (sfOf n s) (sfOf m t)) ∧ Below w.heap.size w w' := by
  have H1 := Lib.hid (specOpen hs hsz hn hn2)
  have H2 := Lib.hid (fun (W : World) (hW : Below w.heap.size w W) => specOpen (w := W) ((ht.below hW).more hW.size) htz hm hm2)
  obtain ⟨a1, a2, a3, a4, a5, a6⟩ := walk_fit ho.1
  obtain ⟨b1, b2, b3, b4, b5, b6⟩ := walk_fit ho2.1
  have a8 := shape_facts ho.1
  have b8 := shape_facts ho2.1
  have hFl := sfOf_len (s := s) a4
  have hGl := sfOf_len (s := t) b4
  have HGI := Lib.hid (sfOf_inc m t)
  have HL := Lib.hid ho
  have HL2 := Lib.hid ho2
  obtain ⟨y, hy⟩ : ∃ y, (s 0).size = y := ⟨_, rfl⟩
  obtain ⟨z, hz⟩ : ∃ z, (t 0).size = z := ⟨_, rfl⟩
  have HF0 := Lib.hid (show sndS n y (dataN n y) (joinU y s) (entsN n) = sfOf n s by unfold sfOf; rw [hy])
  have HG0 := Lib.hid (show sndS m z (dataN m z) (joinU z t) (entsN m) = sfOf m t by unfold sfOf; rw [hz])
  rw [hy] at a2 a3 a5 a6 a8
  rw [hz] at b2 b3 b5 b6 b8
  have HY := Lib.hid hy
  have HZ := Lib.hid hz
  have A6 := Lib.hid a6
  have B6 := Lib.hid b6
  obtain ⟨F, hF⟩ : ∃ F, sfOf n s = F := ⟨_, rfl⟩
  obtain ⟨G, hG⟩ : ∃ G, sfOf m t = G := ⟨_, rfl⟩
  rw [hF] at HF0 hFl ⊢
  rw [hG] at HG0 hGl HGI ⊢
  clear hs hsz ht htz ho ho2 hF hG hy hz a6 b6
  go_enter Tryz.func19, Tryz.ntmps19
  go_upto_region 4 with (go_at_call 24; refine H1.out.mono ?_; rintro r w1 ⟨h1, _⟩; obtain ⟨p, rfl, ow⟩ := h1 HL.out; rw [HY.out] at ow; obtain ⟨g, cc, hc, hcap, hb1, hp, hg⟩ := ow)
  have HB1 := Lib.hid hb1
  have HC1 := Lib.hid hc
  clear hb1 h1 hc
  go_upto_region 7 with (go_at_call 24; refine (H2.out _ HB1.out).mono ?_; rintro r w2 ⟨h2, _⟩; obtain ⟨p2, rfl, ow⟩ := h2 HL2.out; rw [HZ.out] at ow; obtain ⟨g2, cc2, hc2, hcap2, hb2, hp2, hg2⟩ := ow)
  have HB2 := Lib.hid (HB1.out.trans (hb2.mono HB1.out.size))
  have HC2 := Lib.hid (HC1.out.below hb2)
  have HD2 := Lib.hid hc2
  clear hb2 h2 hc2
  have HS1 := Lib.hid (specSound_any HC2.out (by omega) (by omega) a1 a5 a2 rfl a3 hcap a4 rfl A6.out)
  rw [HF0.out] at HS1
  go_upto_region 8 with (go_at_call 31; refine HS1.out.mono ?_; rintro r w3 ⟨A3, c3, rfl, ho3, hb3⟩)
  have HB3 := Lib.hid (HB2.out.trans (hb3.mono HB2.out.size))
  have HD3 := Lib.hid (HD2.out.below hb3)
  have HF3 := Lib.hid (ho3.base HB2.out.size)
  clear ho3 hb3
  have HS2 := Lib.hid (specSound_any HD3.out (by omega) (by omega) b1 b5 b2 rfl b3 hcap2 b4 rfl B6.out)
  rw [HG0.out] at HS2
  go_upto_region 9 with (go_at_call 31; refine HS2.out.mono ?_; rintro r w4 ⟨A4, c4, rfl, ho4, hb4⟩)
  have HB4 := Lib.hid (HB3.out.trans (hb4.mono HB3.out.size))
  have HF4 := Lib.hid (HF3.out.below hb4)
  have HG4 := Lib.hid (ho4.base HB3.out.size)
  clear ho4 hb4
  have hz4 := HB4.out.size
  have hal := (Below.refl w4.heap.size w4).alloc (Nat.le_refl _) (.cells #[] 9)
  have HN5 := Lib.hid (own_nilE w4 9 1 w4.heap.size (Nat.le_refl _))
  have HB5 := Lib.hid hal
  clear hal
  go_wp2_with fail
  go_loopw [11, 12] (fun s11 s12 wr => ∃ (k ga c' : Nat), k ≤ F.length ∧ s11 = .slice (some ⟨ga, 0, none⟩) (keptL (F.take k) G).length c' ∧ s12 = .int .i64 k ∧ StrR w4.heap.size wr (some ⟨ga, 0, none⟩) c' (keptL (F.take k) G) ∧ Below w4.heap.size w4 wr) (fun _ s _ => F.length - (intOf s).toNat)
  case atStart => exact ⟨0, _, 0, by omega, rfl, rfl, HN5.out, HB5.out⟩
  case round =>
    obtain ⟨k, ga, c', hk, rfl, rfl, hst, hb⟩ := hrel
    have hbz := hb.size
    have HST := Lib.hid hst
    have HB := Lib.hid hb
    clear hst hb
    by_cases hlt : k < F.length
    · have hln := keptL_len (F.take k) G
      have hln2 : (F.take k).length ≤ k := by rw [List.length_take]; omega
      have HEND := Lib.hid (innK_end (F := F) HGI.out hlt)
      obtain ⟨L, hL⟩ : ∃ L, keptL (F.take k) G = L := ⟨_, rfl⟩
      rw [hL] at HST hln HEND ⊢
      obtain ⟨b', o, hA3, hbb, h0, h1⟩ := (HF4.out.sl).two hlt
      subst hA3
      rw [fAt_name] at h0
      rw [fAt_data] at h1
      obtain ⟨x, hx⟩ : ∃ x, (F.getD k (⟨#[]⟩, ⟨#[]⟩)).1 = x := ⟨_, rfl⟩
      obtain ⟨y1, hy⟩ : ∃ y, (F.getD k (⟨#[]⟩, ⟨#[]⟩)).2 = y := ⟨_, rfl⟩
      rw [hx] at h0 HEND
      rw [hy] at h1 HEND
      have H0 := Lib.hid h0
      have H1' := Lib.hid h1
      clear hL hx hy h0 h1
      go_wp2_with fail
      obtain ⟨wo, hwo⟩ : ∃ wo : World, wo = wr := ⟨_, rfl⟩
      subst hwo
      go_loopw [11, 13] (fun s11 s13 wr => ∃ (j ga c' : Nat), j ≤ G.length ∧ s11 = .slice (some ⟨ga, 0, none⟩) (innK L (x, y1) G j).length c' ∧ s13 = .int .i64 j ∧ StrR w4.heap.size wr (some ⟨ga, 0, none⟩) c' (innK L (x, y1) G j) ∧ Below w4.heap.size w4 wr) (fun _ s _ => G.length - (intOf s).toNat)
      case atStart => exact ⟨0, ga, c', by omega, rfl, rfl, HST.out, HB.out⟩
      case round =>
        clear HST HB hbz
        obtain ⟨j, ga, c', hj, rfl, rfl, hst, hb⟩ := hrel
        have hbz := hb.size
        have HST := Lib.hid hst
        have HB := Lib.hid hb
        have h0 := (hb.cell (p := ⟨b', o + k * 2, none⟩) hbb).trans H0.out
        have h1 := (hb.cell (p := ⟨b', o + k * 2 + 1, none⟩) hbb).trans H1'.out
        clear hst hb
        by_cases hlt2 : j < G.length
        · have hjl := innK_len L (x, y1) G j
          have HSTEP := Lib.hid (show innK L (x, y1) G (j + 1) = if (G.getD j (⟨#[]⟩, ⟨#[]⟩)).1 = x ∧ (G.getD j (⟨#[]⟩, ⟨#[]⟩)).2 = y1 then innK L (x, y1) G j ++ [x] else innK L (x, y1) G j from rfl)
          obtain ⟨b2', o2, hA4, hbb2, k0, k1⟩ := (HG4.out.sl).two hlt2
          subst hA4
          rw [fAt_name] at k0
          rw [fAt_data] at k1
          obtain ⟨x2, hx2⟩ : ∃ x, (G.getD j (⟨#[]⟩, ⟨#[]⟩)).1 = x := ⟨_, rfl⟩
          obtain ⟨y2, hy2⟩ : ∃ y, (G.getD j (⟨#[]⟩, ⟨#[]⟩)).2 = y := ⟨_, rfl⟩
          rw [hx2, hy2] at HSTEP
          rw [hx2] at k0
          rw [hy2] at k1
          have g0 := (HB.out.cell (p := ⟨b2', o2 + j * 2, none⟩) hbb2).trans k0
          have g1 := (HB.out.cell (p := ⟨b2', o2 + j * 2 + 1, none⟩) hbb2).trans k1
          clear k0 k1 hx2 hy2
          obtain ⟨M, hM⟩ : ∃ M, innK L (x, y1) G j = M := ⟨_, rfl⟩
          rw [hM] at HST HSTEP hjl ⊢
          clear hM
          by_cases he : x2 = x ∧ y2 = y1
          · have HN := Lib.hid (show innK L (x, y1) G (j + 1) = M ++ [x] by rw [HSTEP.out, if_pos he])
            have hf : fileEqB x y1 x2 y2 = true := by simp [fileEqB, he.1, he.2]
            clear he
            go_wp2_with fail
            go_quiet (fail)
            rename_i nq
            have hbD := (Below.refl wr.heap.size wr).drewN nq
            have d0 : (wr.drewN nq).cell? ⟨b', o + k * 2, none⟩ = some (.string x) := h0
            have HSD := Lib.hid (HST.out.below hbD)
            have HBD := Lib.hid (HB.out.drewN nq)
            have hzD := HBD.out.size
            clear hbD h0 h1 g0 g1
            generalize wr.drewN nq = W8 at *
            go_wp2_with (at_builtin; refine wpList_push (.tmp 56) (.tmp 62) 22 w4.heap.size 9 (.string .empty) _ 16 _ M.length _ HSD.out rfl rfl Tryz.underlying22 infoSt rfl rfl rfl rfl rfl (by omega) (by omega) hzD ?_; intro A8 c8 w8 ho8 hb8)
            obtain ⟨g8, cap8, hv8, _, _⟩ := ho8.form (by omega)
            injection hv8 with hA8 _ hC8
            injection hA8 with hA8
            subst hA8 hC8
            go_roundw
            case rel => exact ⟨j + 1, g8, c8, by omega, by rw [HN.out]; simp, by go_num, by rw [HN.out]; simpa [StrR] using ho8, HBD.out.trans hb8⟩
            case measure => simp [intOf]; omega
          · have HN := Lib.hid (show innK L (x, y1) G (j + 1) = M by rw [HSTEP.out, if_neg he])
            have hf : fileEqB x y1 x2 y2 = false := by
              simp only [fileEqB, decide_eq_false_iff_not]
              exact fun q => he ⟨q.1.symm, q.2.symm⟩
            clear he
            go_wp2_with fail
            go_quiet (fail)
            rename_i nq
            go_wp2_with fail
            go_roundw
            case rel => exact ⟨j + 1, ga, c', by omega, by rw [HN.out], by go_num, by rw [HN.out]; exact HST.out.below ((Below.refl wr.heap.size wr).drewN nq), HB.out.drewN nq⟩
            case measure => simp [intOf]; omega
        · obtain rfl : j = G.length := by omega
          rw [HEND.out] at HST ⊢
          clear h0 h1
          go_wp2_with fail
          go_roundw
          case rel => exact ⟨k + 1, ga, c', by omega, rfl, by go_num, HST.out, HB.out⟩
          case measure => simp [intOf]; omega
    · obtain rfl : k = F.length := by omega
      rw [List.take_length] at HST ⊢
      go_wp2_with fail
      go_ret2
      exact ⟨_, c', rfl, own_base HST.out hz4, HB4.out.trans (HB.out.mono hz4)⟩
theorem specKept_bad {w : World} {n m c d : Nat} {A B : Option Addr} {s t : Nat → ByteArray} (hs : Sl w w.heap.size A n (fun i => .string (s i))) (hsz : ∀ i, i < n → (s i).size ≤ 9223372036854775807) (hn : n ≤ c) (hn2 : n ≤ 9223372036854775807)
    (ht : Sl w w.heap.size B m (fun i => .string (t i))) (htz : ∀ i, i < m → (t i).size ≤ 9223372036854775807) (hm : m ≤ d) (hm2 : m ≤ 9223372036854775807) (ho : ¬ (opens n s ∧ opens m t)) :
    Calls Tryz.prog 19 #[.slice A n c, .slice B m d] w fun r w' => r = .returned (.tuple #[.slice none 0 0, .int .i64 (kfCode n s m t)]) ∧ Below w.heap.size w w' := by
  have H1 := Lib.hid (specOpen hs hsz hn hn2)
  have H2 := Lib.hid (fun (W : World) (hW : Below w.heap.size w W) => specOpen (w := W) ((ht.below hW).more hW.size) htz hm hm2)
  by_cases h1 : opens n s
  · have h2 : ¬ opens m t := fun h => ho ⟨h1, h⟩
    have hne := openCode_ne m t
    have HL := Lib.hid h1
    have HL2 := Lib.hid h2
    have HK := Lib.hid (show kfCode n s m t = openCode m t by unfold kfCode; rw [if_pos h1, if_neg h2])
    rw [HK.out]
    obtain ⟨code, hcode⟩ : ∃ code, openCode m t = code := ⟨_, rfl⟩
    rw [hcode] at hne ⊢
    have HCD := Lib.hid hcode
    clear ho hs hsz ht htz hcode h1 h2
    rcases hne with rfl | rfl
    all_goals
      go_enter Tryz.func19, Tryz.ntmps19
      go_upto_region 4 with (go_at_call 24; refine H1.out.mono ?_; rintro r w1 ⟨h1, _⟩; obtain ⟨p, rfl, ow⟩ := h1 HL.out; obtain ⟨g, cc, hc, hcap, hb1, hp, hg⟩ := ow)
      have HB1 := Lib.hid hb1
      clear hb1 h1 hc
      go_wp2_with (go_at_call 24; refine (H2.out _ HB1.out).mono ?_; rintro r w2 ⟨_, h2⟩; obtain ⟨h3, hb2⟩ := h2 HL2.out; rw [HCD.out] at h3; subst h3; clear h2)
      go_ret2
      exact ⟨rfl, HB1.out.trans (hb2.mono HB1.out.size)⟩
  · have hne := openCode_ne n s
    have HL := Lib.hid h1
    have HK := Lib.hid (show kfCode n s m t = openCode n s by unfold kfCode; rw [if_neg h1])
    rw [HK.out]
    obtain ⟨code, hcode⟩ : ∃ code, openCode n s = code := ⟨_, rfl⟩
    rw [hcode] at hne ⊢
    have HCD := Lib.hid hcode
    clear ho hs hsz ht htz hcode h1
    rcases hne with rfl | rfl
    all_goals
      go_enter Tryz.func19, Tryz.ntmps19
      go_wp2_with (go_at_call 24; refine H1.out.mono ?_; rintro r w1 ⟨_, h1⟩; obtain ⟨h3, hb1⟩ := h1 HL.out; rw [HCD.out] at h3; subst h3; clear h1)
      go_ret2
      exact ⟨rfl, hb1⟩
end Go.Proofs.YtapkckpjeoedaaaGreatDoor
