/-
  Disks of extents: a disk of one's own; an entry is stored: the reference's side.
-/
import Derived.Test.YtmgcaiilocifbaaGreatDoorXnS
import Derived.Test.YtmgcaiilocifbaaGreatDoorXmT
import Derived.Test.YtmgcaiilocifbaaGreatDoorAppR
import Derived.Deep.DeepCutAuto
namespace Go.Proofs.YtmgcaiilocifbaaGreatDoor
open Go Go.ChangeShapes Go.WideShapes Go.ChangeAt Go.RowKit lib
set_option linter.unusedVariables false
set_option linter.unusedSimpArgs false
set_option maxRecDepth 100000
/-- the bytes of the disk while entry k is replaced -/
def pxK (z : Nat) (U : Nat → UInt8) (k : Nat) (e : XE) (j : Nat) : Nat → UInt8 := fun i => if z + k * 16 ≤ i ∧ i < z + k * 16 + j then e.byte (i - (z + k * 16)) else U i
theorem pxK_zero (z : Nat) (U : Nat → UInt8) (k : Nat) (e : XE) : pxK z U k e 0 = U := by
  funext i
  unfold pxK
  rw [if_neg (by omega)]
theorem pxK_more (z : Nat) (U : Nat → UInt8) (k : Nat) (e : XE) (j : Nat) : pxK z U k e (j + 1) = upd (pxK z U k e j) (z + k * 16 + j) (e.byte j) := by
  funext i
  unfold pxK upd
  dsimp only
  by_cases h : i = z + k * 16 + j
  · subst h
    rw [if_pos rfl, if_pos (by omega)]
    congr 1
    omega
  · rw [if_neg h]
    by_cases h2 : z + k * 16 ≤ i ∧ i < z + k * 16 + j
    · rw [if_pos h2, if_pos (by omega)]
    · rw [if_neg h2, if_neg (by omega)]
theorem pxK_full (z : Nat) (U : Nat → UInt8) (k : Nat) (e : XE) : pxK z U k e 16 = putX z U k e := by
  funext i
  rw [putX_at]
  rfl
theorem blk_size (z : Nat) (U : Nat → UInt8) (i : Nat) : (blkOf z U i).size = z := bsx_size _ _
theorem blk_at {z : Nat} {U : Nat → UInt8} {i r : Nat} (h : r < z) : byteAt (blkOf z U i) r = U (i * z + r) := bsx_at h
/-- one byte changed: one block changed -/
theorem blk_set {n z : Nat} {U : Nat → UInt8} {i0 r : Nat} {x : UInt8} (hi : i0 < n) (hr : r < z) :
    ((List.range n).map fun i => Value.string (blkOf z (upd U (i0 * z + r) x) i)) = ((List.range n).map fun i => Value.string (blkOf z U i)).set i0 (.string (bstr z (upd (byteAt (blkOf z U i0)) r x))) := by
  apply List.ext_getElem
  · simp
  · intro i h1 h2
    simp only [List.length_map, List.length_range] at h1
    rw [List.getElem_set]
    simp only [List.getElem_map, List.getElem_range]
    by_cases h : i0 = i
    · subst h
      rw [if_pos rfl]
      congr 1
      unfold blkOf
      apply bsx_congr
      intro j hj
      unfold upd
      by_cases hjr : j = r
      · subst hjr; simp
      · rw [if_neg (by omega), if_neg hjr]
        exact (bsx_at (v := fun j => U (i0 * z + j)) hj).symm
    · rw [if_neg h]
      congr 1
      unfold blkOf
      apply bsx_congr
      intro j hj
      rw [upd_other]
      intro he
      apply h
      have h3 : (i * z + j) / z = i := by rw [Nat.add_comm, Nat.add_mul_div_right _ _ (by omega), Nat.div_eq_of_lt hj, Nat.zero_add]
      have h4 : (i0 * z + r) / z = i0 := by rw [Nat.add_comm, Nat.add_mul_div_right _ _ (by omega), Nat.div_eq_of_lt hr, Nat.zero_add]
      rw [← h3, ← h4, he]
theorem own_neR {w : World} {B e k n : Nat} {v : Value} {xs : List Value} (h : w.ownsRow B e k v n xs) {q T : Nat} {cs : Array Value} (hr : Rw w q T cs) (hne : e ≠ T) : v.ownBlock = none ∨ v.ownBlock ≠ some q := by
  rcases h.2 with ⟨hv, _⟩ | ⟨g, cap, cur, hv, hb, hg, _⟩
  · left; rw [hv]; rfl
  · right
    rw [hv]
    intro he
    have : g = q := by simpa [Value.ownBlock] using he
    subst this
    unfold Rw at hr
    rw [hg] at hr
    injection hr with hr
    injection hr with _ h2 _
    exact hne h2
theorem infoStX : (Tryz.prog.info? 9).map (fun i => (i.zero, i.size, i.bytes)) = some (some (.string .empty), 1, 16) := by kernel_rfl
theorem specOwnX_any {w : World} {n c : Nat} {A : Option Addr} {s : Nat → ByteArray} (hs : Sl w w.heap.size A n (fun i => .string (s i))) (hn : n ≤ 1048576) :
    Calls Tryz.prog 16 #[.slice A n c] w fun r w' => ∃ A2 c2, r = .returned (.slice A2 n c2) ∧ w'.ownsRow w.heap.size 9 1 (.slice A2 n c2) n ((List.range n).map fun i => .string (s i)) ∧ Below w.heap.size w w' := by
  obtain ⟨i0, hi0, hi1, hi2, hi3⟩ := info_parts infoStX
  have HS := Lib.hid (hs.alloc (Nat.le_refl _) (.cells #[] 9))
  have HNE := Lib.hid (own_nilE w 9 1 w.heap.size (Nat.le_refl _))
  have HB := Lib.hid ((Below.refl w.heap.size w).alloc (Nat.le_refl _) (.cells #[] 9))
  have hz : w.heap.size ≤ (w.alloc (.cells #[] 9)).heap.size := by simp
  clear hs
  go_enter Tryz.func16, Tryz.ntmps16
  go_wp2_with (at_builtin; refine wpList_appR rfl (.tmp 3) (.tmp 4) 22 rfl w.heap.size 9 i0 (.string .empty) 1 16 Tryz.underlying22 hi0 hi1 hi2 hi3 rfl (by omega) _ 0 [] (by rfl) HNE.out A n c w.heap.size (fun i => .string (s i)) (by rfl) (by rw [Nat.mul_one]; exact HS.out) (fun _ => rfl) (by simp only [maxLen]; omega) (by omega) hz ?_; intro A' c' w' ho hg hown)
  go_ret
  rw [Nat.zero_add] at ho
  rw [Nat.mul_one, List.nil_append] at ho
  refine ⟨A', c', rfl, ho, HB.out.grown hg hz (fun j hj => own_lt HNE.out j hj)⟩
set_option maxHeartbeats 4000000 in
theorem specSetX_any {w : World} {B n c g q eb z k ce : Nat} {n0 E0 t0 : Value} {Ae : Option Addr} {U : Nat → UInt8} (e : XE) (he : e.ok z) (ho : w.ownsRow B 9 1 (.slice (some ⟨g, 0, none⟩) n c) n ((List.range n).map fun i => .string (blkOf z U i))) (hB : B ≤ w.heap.size) (hr : Rw w q 30 #[n0, .int .i64 z, E0, t0])
    (hre : Rw w eb 38 #[.int .i64 e.st, .string e.nm, .int .i64 e.no, .int .i64 e.tl, .slice Ae e.bl.length ce]) (hse : Sl w w.heap.size Ae e.bl.length (fun i => .int .i64 (e.bl.getD i 0))) (hz8 : 8 ≤ z) (hz32 : z ≤ 32) (hn : n ≤ 128) (hk : z + k * 16 + 16 ≤ n * z) :
    Calls Tryz.prog 18 #[.slice (some ⟨g, 0, none⟩) n c, .pointer (some ⟨q, 0, none⟩), .int .i64 k, .pointer (some ⟨eb, 0, none⟩)] w fun r w' => r = .returned (.tuple #[]) ∧ w'.ownsRow B 9 1 (.slice (some ⟨g, 0, none⟩) n c) n ((List.range n).map fun i => .string (blkOf z (putX z U k e) i)) ∧ w.grownBy w' (some g) := by
  have hN : n * z ≤ 4096 := Nat.mul_le_mul hn hz32
  have hn0 : 0 < n := by
    rcases Nat.eq_zero_or_pos n with h | h
    · subst h; omega
    · exact h
  have key : ∀ j, j < 16 → ∃ qq r : Nat, (((16 * k + j : Nat) : Int) / (z : Int) = (qq : Int)) ∧ (Int.tmod ((16 * k + j : Nat) : Int) (z : Int) = (r : Int)) ∧ r < z ∧ 1 + qq < n ∧ z + k * 16 + j = (1 + qq) * z + r := by
    intro j hj
    have hzp : 0 < z := by omega
    refine ⟨(16 * k + j) / z, (16 * k + j) % z, by simp, rfl, Nat.mod_lt _ hzp, ?_, ?_⟩
    · have h1 : (16 * k + j) / z < n - 1 := by
        rw [Nat.div_lt_iff_lt_mul hzp, Nat.sub_mul, Nat.one_mul]
        omega
      generalize (16 * k + j) / z = X at *
      omega
    · have h2 := Nat.div_add_mod (16 * k + j) z
      rw [Nat.add_mul, Nat.one_mul, Nat.mul_comm ((16 * k + j) / z) z]
      omega
  have HP := Lib.hid (specPutXE (z := z) (by omega) eb e he Ae ce w hse hre)
  have HK := Lib.hid key
  have HO := Lib.hid ho
  have HR := Lib.hid hr
  have hgB : B ≤ g := own_lt ho g rfl
  have hgl : g < w.heap.size := by
    obtain ⟨b, o, e1, e2, _⟩ := own_sl ho 0 (by omega)
    simp only [Option.some.injEq, Addr.mk.injEq] at e1
    omega
  have hql := hr.lt
  have hgq : g ≠ q := by
    rcases own_neR ho hr (by decide) with h | h
    · cases h
    · exact fun e => h (by rw [e]; rfl)
  have hb0 := byte_free (e := e)
  clear key ho hr hre hse he hb0
  go_enter Tryz.func18, Tryz.ntmps18
  go_upto_region 1 with (go_at_call 38; refine HP.out.mono ?_; rintro r1 w1 ⟨gb, rfl, hbr, hgb, hb1⟩)
  have HO1 := Lib.hid (own_below HO.out hb1)
  have HR1 := Lib.hid (HR.out.below hb1 hql)
  have HBR := Lib.hid hbr
  have hgo1 := only_below hb1 (Nat.le_refl _) (some g)
  have HG1 := Lib.hid hgo1
  have hz1 := hb1.size
  have hgbl := hbr.lt
  clear hbr hb1 hgo1
  go_wp2_with fail
  go_loopw [9, 10, 11] (fun s9 s10 s11 wr => ∃ j : Nat, j ≤ 16 ∧ s9 = .int .i64 j ∧ wr.ownsRow B 9 1 (.slice (some ⟨g, 0, none⟩) n c) n ((List.range n).map fun i => .string (blkOf z (pxK z U k e j) i)) ∧ w1.grownBy wr (some g)) (fun i _ _ _ => 16 - (intOf i).toNat)
  case atStart => exact ⟨0, Nat.zero_le _, rfl, by rw [pxK_zero]; exact HO1.out, only_refl _ _⟩
  case round =>
    obtain ⟨j, hj, rfl, ho, hg⟩ := hrel
    have hwr := hg.size
    by_cases hlt : j < 16
    · obtain ⟨qq, r, hq, hrr, hrz, hqn, hE⟩ := HK.out j hlt
      have hz1c := (rwGrown HR1.out hg (fun e => by simp only [Option.some.injEq] at e; omega)).cell 1
      have hbj := (HBR.out.grown hg (fun e => by simp only [Option.some.injEq] at e; omega)).cell (i := j) hlt
      obtain ⟨i, hi⟩ : ∃ i, 16 * k + j = i := ⟨_, rfl⟩
      have hi2 : 16 * (k : Int) + (j : Int) = (i : Int) := by omega
      rw [hi] at hq hrr
      obtain ⟨V, hV⟩ : ∃ V, V = pxK z U k e j := ⟨_, rfl⟩
      rw [← hV] at ho
      obtain ⟨_, _, e1, _, hcg⟩ := own_sl ho (1 + qq) (by omega)
      simp only [Option.some.injEq, Addr.mk.injEq, and_true] at e1
      obtain ⟨rfl, rfl⟩ := e1
      dsimp only at hcg
      rw [Nat.zero_add, List.getD_eq_getElem?_getD, List.getElem?_map, List.getElem?_range hqn] at hcg
      simp only [Option.map_some, Option.getD_some] at hcg
      have hfg := (own_cell ho (i := 1 + qq) (by omega)).2
      obtain ⟨S1, hS1⟩ : ∃ S1, S1 = blkOf z V (1 + qq) := ⟨_, rfl⟩
      have hSz : S1.size = z := by rw [hS1, blk_size]
      rw [← hS1] at hcg
      have hSB := BRow.ofBytes wr 5 S1 (grownCap wr z 0 5)
      rw [hSz] at hSB
      have cvt : ∀ W : World, (convert 9 49 (.string S1)).run Tryz.prog W = .ok (.slice (some ⟨W.heap.size, 0, none⟩) S1.size (grownCap W S1.size 0 5)) (W.drew.alloc (.cells (bytesRow S1 (grownCap W S1.size 0 5)) 5 ((bytesRow S1 (grownCap W S1.size 0 5)).size, (bytesRow S1 (grownCap W S1.size 0 5)).size + 1))) :=
        fun W => run_bytes_of_string W 9 49 5 S1 Tryz.underlying9 Tryz.underlying49 Tryz.underlying5
      have zz0 : (z = 0) = False := by simp; omega
      have wqq : IntKind.i64.wrap (qq : Int) = (qq : Int) := by rw [IntKind.wrap_i64]; omega
      have wrr : IntKind.i64.wrap (r : Int) = (r : Int) := by rw [IntKind.wrap_i64]; omega
      have wq1 : IntKind.i64.wrap (1 + (qq : Int)) = 1 + (qq : Int) := by rw [IntKind.wrap_i64]; omega
      have wk : IntKind.i64.wrap (16 * (k : Int)) = 16 * (k : Int) := by rw [IntKind.wrap_i64]; omega
      have wi : IntKind.i64.wrap (i : Int) = (i : Int) := by rw [IntKind.wrap_i64]; omega
      have iq1 : (0 : Int) ≤ 1 + (qq : Int) := by omega
      have iq2 : 1 + (qq : Int) < (n : Int) := by omega
      have iq3 : (1 + (qq : Int)).toNat = 1 + qq := by omega
      have ir1 : (r : Int) < (z : Int) := by omega
      have HS1 := Lib.hid hS1
      have HV := Lib.hid hV
      have HI := Lib.hid hi
      have HO2 := Lib.hid ho
      have HE := Lib.hid hE
      have hgr : g ≠ wr.heap.size := by omega
      have hbg : gb ≠ wr.heap.size := by omega
      have hqg : q ≠ wr.heap.size := by omega
      clear hS1 hV hi ho hE
      go_upto_region 6 with fail
      have hb5 := (Below.refl wr.heap.size wr).alloc (Nat.le_refl _) (.cells (bytesRow S1 (grownCap wr z 0 5)) 5 ((bytesRow S1 (grownCap wr z 0 5)).size, (bytesRow S1 (grownCap wr z 0 5)).size + 1))
      have hs5 : (wr.alloc (.cells (bytesRow S1 (grownCap wr z 0 5)) 5 ((bytesRow S1 (grownCap wr z 0 5)).size, (bytesRow S1 (grownCap wr z 0 5)).size + 1))).heap.size = wr.heap.size + 1 := World.size_alloc _ _
      have hS5 := hSB.drew
      have ho5 := own_below HO2.out hb5.drew
      have hR5 := (rwGrown HR1.out hg (fun e => by simp only [Option.some.injEq] at e; omega)).below hb5.drew (by omega)
      have hB5 := (HBR.out.grown hg (fun e => by simp only [Option.some.injEq] at e; omega)).below hb5.drew (by omega)
      have hG5 := only_drew (only_alloc hg (.cells (bytesRow S1 (grownCap wr z 0 5)) 5 ((bytesRow S1 (grownCap wr z 0 5)).size, (bytesRow S1 (grownCap wr z 0 5)).size + 1)))
      have hcap := grownCap_ge wr z 0 5
      generalize grownCap wr z 0 5 = cp at *
      generalize (wr.alloc (.cells (bytesRow S1 cp) 5 ((bytesRow S1 cp).size, (bytesRow S1 cp).size + 1))).drew = W5 at *
      obtain ⟨tb, htb⟩ : ∃ tb, wr.heap.size = tb := ⟨_, rfl⟩
      rw [htb] at hS5 hgr hbg hqg
      have htw : w1.heap.size ≤ tb := by omega
      have y1 := hR5.cell 1
      have y2 := hB5.cell (i := j) hlt
      have y3 := hS5.cell (i := r) hrz
      have y4 := hS5.frozen (i := r) hrz
      have HS5 := Lib.hid hS5
      have HO5 := Lib.hid ho5
      have HR5 := Lib.hid hR5
      have HG5 := Lib.hid hG5
      have ijz : (j : Int) < 16 := by omega
      rw [htb]
      clear cvt hSB hb5 hs5 hS5 ho5 hR5 hB5 hG5 hz1c hbj hcg hfg htb HO2 hg
      go_region
      all_goals
        go_upto_region 7 with fail
        have hS6 := (HS5.out.set (i := r) (e.byte j) rfl).drew
        have ho6 : ((W5.setCell ⟨tb, r, none⟩ (.int .u8 ((e.byte j).toNat : Int))).drew).ownsRow B 9 1 (.slice (some ⟨g, 0, none⟩) n c) n ((List.range n).map fun i => .string (blkOf z V i)) := World.ownsRow.kept HO5.out (only_drew (only_setCell (g := tb) (only_refl W5 _) (.inl rfl) _)) (.inr (fun e => by simp only [Value.ownBlock, Option.some.injEq] at e; exact hgr e))
        have hR6 := (HR5.out.far (p := ⟨tb, r, none⟩) hqg (.int .u8 ((e.byte j).toNat : Int))).drew
        have hG6 : w1.grownBy ((W5.setCell ⟨tb, r, none⟩ (.int .u8 ((e.byte j).toNat : Int))).drew) (some g) := only_drew (only_setCell HG5.out (.inr htw) _)
        generalize (W5.setCell ⟨tb, r, none⟩ (.int .u8 ((e.byte j).toNat : Int))).drew = W6 at *
        have hcv : ∀ W : World, BRow W 5 tb z (upd (byteAt S1) r (e.byte j)) → (convert 49 9 (.slice (some ⟨tb, 0, none⟩) z cp)).run Tryz.prog W = .ok (.string (bstr z (upd (byteAt S1) r (e.byte j)))) W := fun W hW =>
          run_bstr (P := Tryz.prog) (w := W) (B := W.heap.size) 49 9 5 Tryz.underlying49 Tryz.underlying5 Tryz.underlying9 (u := upd (byteAt S1) r (e.byte j)) (fun i hi => ⟨tb, 0, rfl, hW.lt, by rw [Nat.zero_add, hW.cell hi]⟩) (by simp)
        have hcv1 := hcv W6 hS6
        have hcv2 := hcv W6.drew hS6.drew
        have y1 := hR6.cell 1
        obtain ⟨⟨u0, y5⟩, y6⟩ := own_cell ho6 (i := 1 + qq) (by omega)
        obtain ⟨NB, hNB⟩ : ∃ NB, NB = bstr z (upd (byteAt S1) r (e.byte j)) := ⟨_, rfl⟩
        rw [← hNB] at hcv1 hcv2
        have hst := own_set ho6 (i := 1 + qq) (by omega) (.string NB)
        have heq : (((List.range n).map fun i => Value.string (blkOf z V i)).set (1 + qq) (.string NB)) = ((List.range n).map fun i => Value.string (blkOf z (pxK z U k e (j + 1)) i)) := by rw [hNB, HS1.out, ← blk_set hqn hrz, ← HE.out, HV.out, ← pxK_more]
        rw [heq] at hst
        have HST := Lib.hid hst
        have HG6 := Lib.hid hG6
        clear hcv hst heq hG6 ho6 hR6 hS6 hNB
        go_region
        all_goals
          go_wp2_with fail
          go_roundw
          case rel =>
            refine ⟨j + 1, by omega, by go_num, ?_, only_drew (only_setCell HG6.out (.inl rfl) _)⟩
            exact HST.out
          case measure => simp [intOf]; omega
    · obtain rfl : j = 16 := by omega
      go_wp2_with fail
      go_end0
      refine ⟨rfl, by rw [← pxK_full]; exact ho, only_trans HG1.out hg⟩
end Go.Proofs.YtmgcaiilocifbaaGreatDoor
