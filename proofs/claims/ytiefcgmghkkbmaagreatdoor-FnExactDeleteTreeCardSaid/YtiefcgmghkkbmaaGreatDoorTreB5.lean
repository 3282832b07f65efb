/-
  Trees: the program's side: a disk examined and opened.
-/
import Derived.Test.YtiefcgmghkkbmaaGreatDoorTreB4
namespace Go.Proofs.YtiefcgmghkkbmaaGreatDoor
open Go Go.ChangeShapes Go.WideShapes Go.ChangeAt Go.RowKit lib
set_option linter.unusedVariables false
set_option linter.unusedSimpArgs false
set_option maxRecDepth 100000
theorem isTree1_any (s : ByteArray) (w : World) : Calls Tryz.prog 87 #[.string s] w fun e w' => e = .returned (.bool (((s.size : Nat) : Int) != 32)) ∧ w' = w := by
  go_enter Tryz.func87, Tryz.ntmps87
  go_wp2_with fail
  go_ret
  exact ⟨rfl, rfl⟩
/-- texts that are no blocks -/
theorem indexLen_any (A : Option Addr) (c n : Nat) (s : Nat → ByteArray) (w : World) (hl : n ≤ 1048576) (hs : Sl w w.heap.size A n (fun i => .string (s i))) (b : Bool) (hb : b = true ↔ ∃ i, i < n ∧ (s i).size ≠ 32) :
    Calls Tryz.prog 113 #[.slice A n c, .func (.func 87) #[] #[]] w fun e w' => ∃ i : Int, e = .returned (.int .i64 i) ∧ (decide (0 ≤ i)) = b ∧ w' = w := by
  have HS := Lib.hid hs
  have HB := Lib.hid hb
  clear hs hb
  go_enter Tryz.func113, Tryz.ntmps113
  go_wp2_with fail
  go_loopw [5, 8] (fun s5 s8 wr => ∃ k : Nat, k ≤ n ∧ s8 = .int .i64 k ∧ (∀ j, j < k → (s j).size = 32) ∧ wr = w) (fun _ i _ => n - (intOf i).toNat)
  case atStart => exact ⟨0, Nat.zero_le _, rfl, fun j hj => absurd hj (by omega), rfl⟩
  case round =>
    obtain ⟨k, hk, rfl, hj, rfl⟩ := hrel
    have HJ := Lib.hid hj
    clear hj
    by_cases hlt : k < n
    · obtain ⟨bk, o, rfl, hbk, hc⟩ := HS.out k hlt
      dsimp only at hc
      have HV := Lib.hid (fun w : World => isTree1_any (s k) w)
      obtain ⟨x, hx⟩ : ∃ x, s k = x := ⟨_, rfl⟩
      rw [hx] at hc HV
      have HX := Lib.hid hx
      clear hx
      by_cases hx : x.size = 32
      · rw [show (((x.size : Nat) : Int) != 32) = false by simp; omega] at HV
        have HXX := Lib.hid hx
        clear hx
        go_wp2_with (go_at_call 87; refine (HV.out _).mono ?_; rintro e w' ⟨rfl, rfl⟩)
        exact ⟨⟨k + 1, by omega, by go_num, fun j hj => by
          rcases Nat.lt_succ_iff_lt_or_eq.1 hj with h | rfl
          · exact HJ.out j h
          · rw [HX.out]; exact HXX.out, trivial⟩, by simp [intOf]; omega⟩
      · rw [show (((x.size : Nat) : Int) != 32) = true by simp; omega] at HV
        have hbt : b = true := HB.out.2 ⟨k, hlt, by rw [HX.out]; exact hx⟩
        subst hbt
        clear hx
        go_wp2_with (go_at_call 87; refine (HV.out _).mono ?_; rintro e w' ⟨rfl, rfl⟩)
        go_ret
        exact ⟨_, rfl, by simp, rfl⟩
    · obtain rfl : k = n := by omega
      have hbf : b = false := bF HB.out (fun ⟨i, hi, hn⟩ => hn (HJ.out i hi))
      subst hbf
      go_wp2
      go_ret
      exact ⟨_, rfl, by simp, rfl⟩
theorem containsLen_any (A : Option Addr) (c n : Nat) (s : Nat → ByteArray) (w : World) (hl : n ≤ 1048576) (hs : Sl w w.heap.size A n (fun i => .string (s i))) (b : Bool) (hb : b = true ↔ ∃ i, i < n ∧ (s i).size ≠ 32) :
    Calls Tryz.prog 86 #[.slice A n c, .func (.func 87) #[] #[]] w fun e w' => e = .returned (.bool b) ∧ w' = w := by
  have HI := Lib.hid (indexLen_any A c n s w hl hs b hb)
  clear hs hb
  go_enter Tryz.func86, Tryz.ntmps86
  go_wp2_with (go_at_call 113; refine HI.out.mono ?_; rintro e w' ⟨i, rfl, hi, rfl⟩)
  go_ret
  subst hi
  exact ⟨rfl, rfl⟩
theorem sizeStr_any (A : Option Addr) (n c : Nat) (w : World) (hn : n ≤ 9223372036854775807) : Calls Tryz.prog 40 #[.slice A n c] w fun e w' => e = .returned (.int .i64 n) ∧ w' = w := by
  go_enter Tryz.func40, Tryz.ntmps40
  go_wp2
  go_ret
  exact ⟨rfl, rfl⟩
theorem sizeBl_any (A : Option Addr) (n c : Nat) (w : World) (hn : n ≤ 9223372036854775807) : Calls Tryz.prog 93 #[.slice A n c] w fun e w' => e = .returned (.int .i64 n) ∧ w' = w := by
  go_enter Tryz.func93, Tryz.ntmps93
  go_wp2
  go_ret
  exact ⟨rfl, rfl⟩
theorem implIsTree_any {w : World} (A : Option Addr) (n c : Nat) (s : Nat → ByteArray) (hn : n ≤ 1048576) (hs : Sl w w.heap.size A n (fun i => .string (s i))) (b : Bool) (hb : b = true ↔ 4 ≤ n ∧ n ≤ 128 ∧ ∀ i, i < n → (s i).size = 32) : Calls Tryz.prog 36 #[.slice A n c] w fun e w' => e = .returned (.bool b) ∧ w' = w := by
  have HB := Lib.hid hb
  have HSZ := Lib.hid (fun W => sizeStr_any A n c W (by omega))
  have HCO := Lib.hid (fun (v : Bool) hv => containsLen_any A c n s w hn hs v hv)
  clear hs hb
  by_cases h4 : 4 ≤ n ∧ n ≤ 128
  · have d1 : (decide ((4:Int) ≤ (n : Int)) && decide ((n : Int) ≤ 128)) = true := by simp; omega
    by_cases ha : ∃ i, i < n ∧ (s i).size ≠ 32
    · have HC := Lib.hid (HCO.out true ⟨fun _ => ha, fun _ => rfl⟩)
      obtain rfl := bF HB.out (fun q => by obtain ⟨i, hi, h⟩ := ha; exact h (q.2.2 i hi))
      clear ha h4
      go_enter Tryz.func36, Tryz.ntmps36
      go_wp2_with (first | (go_at_call 40; refine (HSZ.out _).mono ?_; rintro e w' ⟨rfl, rfl⟩) | (go_at_call 85; refine (within_any _ _ _ _).mono ?_; rintro e w' ⟨rfl, rfl⟩) | (go_at_call 86; refine HC.out.mono ?_; rintro e w' ⟨rfl, rfl⟩))
      go_ret
      exact ⟨rfl, rfl⟩
    · have HC := Lib.hid (HCO.out false ⟨fun h => (by cases h), fun h => absurd h ha⟩)
      obtain rfl : b = true := HB.out.2 ⟨h4.1, h4.2, fun i hi => Classical.byContradiction fun h => ha ⟨i, hi, h⟩⟩
      clear ha h4
      go_enter Tryz.func36, Tryz.ntmps36
      go_wp2_with (first | (go_at_call 40; refine (HSZ.out _).mono ?_; rintro e w' ⟨rfl, rfl⟩) | (go_at_call 85; refine (within_any _ _ _ _).mono ?_; rintro e w' ⟨rfl, rfl⟩) | (go_at_call 86; refine HC.out.mono ?_; rintro e w' ⟨rfl, rfl⟩))
      go_ret
      exact ⟨rfl, rfl⟩
  · have d1 : (decide ((4:Int) ≤ (n : Int)) && decide ((n : Int) ≤ 128)) = false := by simp; omega
    obtain rfl := bF HB.out (fun q => h4 ⟨q.1, q.2.1⟩)
    clear h4
    go_enter Tryz.func36, Tryz.ntmps36
    go_wp2_with (first | (go_at_call 40; refine (HSZ.out _).mono ?_; rintro e w' ⟨rfl, rfl⟩) | (go_at_call 85; refine (within_any _ _ _ _).mono ?_; rintro e w' ⟨rfl, rfl⟩))
    go_ret
    exact ⟨rfl, rfl⟩
theorem bRowT_bytes (w : World) (e : Nat) (s : ByteArray) (cap : Nat) : BRow (w.alloc (.cells (bytesRow s cap) e ((bytesRow s cap).size, (bytesRow s cap).size + 1))) e w.heap.size s.size (byteAt s) := by
  have hz : s.size ≤ (bytesRow s cap).size := by
    unfold bytesRow
    rw [Array.size_append, Array.size_map]
    exact Nat.le_add_right _ _
  have hc : ∀ i, i < s.size → (bytesRow s cap)[i]? = some (.int .u8 ((byteAt s i).toNat : Int)) := fun i hi => by
    unfold bytesRow
    have hi' : i < s.data.size := hi
    rw [Array.getElem?_append_left (by rw [Array.size_map]; exact hi'), Array.getElem?_map, Array.getElem?_eq_getElem hi']
    unfold byteAt
    rw [List.getD_eq_getElem?_getD, List.getElem?_eq_getElem (by rw [Array.length_toList]; exact hi')]
    rfl
  exact ⟨_, ⟨_, heap_alloc_new w _, fun j hj => by omega⟩, hz, hc⟩
set_option maxHeartbeats 2000000 in
theorem openTree_any {w : World} (A : Option Addr) (n c : Nat) (s : Nat → ByteArray) (h0 : 4 ≤ n) (h1 : n ≤ 128) (hs : Sl w w.heap.size A n (fun i => .string (s i))) (h32 : ∀ i, i < n → (s i).size = 32) :
    Calls Tryz.prog 37 #[.slice A n c] w fun e w' => ∃ gp gr bl cp, e = .returned (.pointer (some ⟨gp, 0, none⟩)) ∧ TreD w' gp gr n w.heap.size bl cp (fun i => byteAt (s i)) ∧ Below w.heap.size w w' := by
  obtain ⟨i0, hi0, hz0, hz1, hz2⟩ := info_parts infoB
  have HS := Lib.hid hs
  have H32 := Lib.hid h32
  clear hs h32
  go_enter Tryz.func37, Tryz.ntmps37
  go_wp2_with fail
  go_loopw [10] (fun s10 wr => ∃ (k : Nat) (v : Value) (bl cp : Nat → Nat), k ≤ n ∧ s10 = .int .i64 k ∧ Row wr w.heap.size 48 #[v] ∧ wr.ownsRow (w.heap.size + 1) 45 1 v k ((List.range k).map fun (i : Nat) => Value.slice (some ⟨bl i, 0, none⟩) 32 (cp i)) ∧
    (∀ i, i < k → BRow wr 5 (bl i) 32 (byteAt (s i)) ∧ w.heap.size ≤ bl i ∧ 32 ≤ cp i) ∧ (∀ i j, i < k → j < k → bl i = bl j → i = j) ∧ Below w.heap.size w wr) (fun i _ => n - (intOf i).toNat)
  case atStart => exact ⟨0, _, fun _ => 0, fun _ => 0, by omega, rfl, Row.new _ _ _, World.ownsRow_nil _ _ _ _, fun i hi => by omega, fun i j hi => by omega, (Below.refl _ _).alloc (Nat.le_refl _) _⟩
  case round =>
    obtain ⟨k, v, bl, cp, hk, rfl, hrow, ho, hbr, hinj, hb⟩ := hrel
    have hz := hb.size
    have hgl := hrow.lt
    by_cases hlt : k < n
    · have hc : wr.cell? ⟨w.heap.size, 0, none⟩ = some v := hrow.cell 0
      have hf : wr.frozen? ⟨w.heap.size, 0, none⟩ = false := hrow.frozen (by simp)
      have hne : some w.heap.size ≠ v.ownBlock := own_ne ho hrow (by decide)
      obtain ⟨ba, oa, hAe, hba, hca⟩ := (HS.out.below hb) k hlt
      subst hAe
      dsimp only at hca
      obtain ⟨S, hS⟩ : ∃ S, s k = S := ⟨_, rfl⟩
      have hSs : S.size = 32 := by rw [← hS]; exact H32.out k hlt
      rw [hS] at hca
      have cvt : ∀ W : World, (convert 9 45 (.string S)).run Tryz.prog W = .ok (.slice (some ⟨W.heap.size, 0, none⟩) S.size (grownCap W S.size 0 5)) (W.drew.alloc (.cells (bytesRow S (grownCap W S.size 0 5)) 5 ((bytesRow S (grownCap W S.size 0 5)).size, (bytesRow S (grownCap W S.size 0 5)).size + 1))) :=
        fun W => run_bytes_of_string W 9 45 5 S Tryz.underlying9 Tryz.underlying45 Tryz.underlying5
      have HSE := Lib.hid hS
      have HNE := Lib.hid hne
      have HROW := Lib.hid hrow
      have HO := Lib.hid ho
      have HBR := Lib.hid hbr
      have HJ := Lib.hid hinj
      have HB := Lib.hid hb
      have HSS := Lib.hid hSs
      clear ho hbr hinj hS hb hrow hne
      obtain ⟨q, hq⟩ : ∃ q, grownCap wr 32 0 5 = q := ⟨_, rfl⟩
      have hq32 : 32 ≤ q := by rw [← hq]; exact grownCap_ge _ _ _ _
      have HSB := Lib.hid (by have := bRowT_bytes wr 5 S (grownCap wr 32 0 5); rwa [HSS.out] at this)
      have HQ := Lib.hid hq
      clear hq
      go_wp2_with (at_builtin; refine wpList_append_lies _ rfl (.tmp 18) (.tmp 21) _ rfl (w.heap.size + 1) 45 i0 _ 1 24 Tryz.underlying46 hi0 hz0 hz1 hz2 rfl (by omega) v k _ rfl (((HO.out.alloc _).alloc _).drew) ⟨wr.heap.size + 1, 0, none⟩ 1 1 [.slice (some ⟨wr.heap.size, 0, none⟩) 32 (grownCap wr 32 0 5)] rfl rfl (news2 _ _ _ _) (by simp [Value.oneCell']) (by omega) (by simp only [maxLen]; omega) (by omega) (by simp; omega) (wr.heap.size + 2) (by simp) ?_; intro gg cap w3 ho3 hgrow hat hlt3; have hr3 := Row.grown (((HROW.out.alloc _).alloc _).drew) hgrow HNE.out; have hf3 := hr3.frozen (i := 0) (by simp); have hc3 := hr3.cell 0)
      go_roundw
      case rel =>
        have hb3 : Below w.heap.size wr w3 := (((Below.refl _ _).alloc hz _).alloc (by simp; omega) _).drew.grown hgrow (by simp; omega) (fun j hj => by have := own_lt HO.out j hj; omega)
        refine ⟨k + 1, _, fun i => if i = k then wr.heap.size else bl i, fun i => if i = k then grownCap wr 32 0 5 else cp i, by omega, by go_num, hr3.set 0 _, ?_, ?_, ?_, (HB.out.trans hb3).setCell (Nat.le_refl _) _⟩
        · have h := ownsRow_setCell_below (a := ⟨w.heap.size, 0, none⟩) ho3 (by simp) (.slice (some ⟨gg, 0, none⟩) (k + 1) cap)
          have e : ((List.range (k + 1)).map fun (i : Nat) => Value.slice (some ⟨if i = k then wr.heap.size else bl i, 0, none⟩) 32 (if i = k then grownCap wr 32 0 5 else cp i)) = ((List.range k).map fun (i : Nat) => Value.slice (some ⟨bl i, 0, none⟩) 32 (cp i)) ++ [.slice (some ⟨wr.heap.size, 0, none⟩) 32 (grownCap wr 32 0 5)] := by
            rw [List.range_succ, List.map_append]
            congr 1
            · exact List.map_congr_left fun i hi => by rw [if_neg (by have := List.mem_range.1 hi; omega), if_neg (by have := List.mem_range.1 hi; omega)]
            · simp
          rw [e]
          exact h
        · intro i hi
          by_cases hik : i = k
          · subst hik
            simp only [if_true]
            have hne2 : some wr.heap.size ≠ v.ownBlock := fun e => by have := (HO.out.lt _ e.symm).2; omega
            refine ⟨?_, hz, by rw [HQ.out]; exact hq32⟩
            rw [HSE.out]
            exact (((HSB.out.alloc _).drew).grown hgrow hne2).far (by simp; omega) _
          · simp only [if_neg hik]
            obtain ⟨h1, h2, h3⟩ := HBR.out i (by omega)
            exact ⟨((((h1.alloc _).alloc _).drew).grown hgrow (own_neB HO.out h1 (by decide))).far (h1.neRow HROW.out (by decide)) _, h2, h3⟩
        · intro i j hi hj he
          have hlt' : ∀ i, i < k → bl i < wr.heap.size := fun i hi => (HBR.out i hi).1.lt
          by_cases hik : i = k <;> by_cases hjk : j = k
          · omega
          · simp only [hik, if_true, if_neg hjk] at he
            have := hlt' j (by omega); omega
          · simp only [hjk, if_true, if_neg hik] at he
            have := hlt' i (by omega); omega
          · simp only [if_neg hik, if_neg hjk] at he
            exact HJ.out i j (by omega) (by omega) he
      case measure => simp [intOf]; omega
    · obtain rfl : k = n := by omega
      obtain ⟨gr, cap, rfl, hgr, hgrl⟩ := ho.form (by omega)
      obtain ⟨gr', cs, e1, _, hrr, hcs, hcc⟩ := own_row ho (by omega)
      simp only [Option.some.injEq, Addr.mk.injEq] at e1
      obtain ⟨rfl, _⟩ := e1
      have hcs' : k ≤ cs.size := by omega
      have hcc' : ∀ i, i < k → cs[i]? = some (.slice (some ⟨bl i, 0, none⟩) 32 (cp i)) := fun i hi => by
        rw [hcc i (by omega), List.getElem?_map, List.getElem?_range hi]; rfl
      have hgr' : w.heap.size ≤ gr := by omega
      have ht : TreeW wr w.heap.size gr k w.heap.size bl cp (fun i => byteAt (s i)) :=
        ⟨⟨cap, hrow⟩, ⟨cs, hrr, hcs', hcc'⟩, fun i hi => ⟨(hbr i hi).1, (hbr i hi).2.1⟩, hinj, Nat.le_refl _, hgr'⟩
      have HT := Lib.hid ht
      have HC := Lib.hid (fun i hi => (hbr i hi).2.2)
      have HB := Lib.hid hb
      clear ht hcc hcs hcc' hcs' hgr' hrr hinj hbr ho hrow hb
      go_wp2_with fail
      go_ret
      exact ⟨_, gr, bl, cp, rfl, ⟨HT.out, HC.out⟩, HB.out⟩
end Go.Proofs.YtiefcgmghkkbmaaGreatDoor
