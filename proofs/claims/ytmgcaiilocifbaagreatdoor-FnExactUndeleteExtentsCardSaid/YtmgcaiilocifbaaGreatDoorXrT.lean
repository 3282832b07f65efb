/-
  Disks of extents: the free data blocks: both sides.
-/
import Derived.Test.YtmgcaiilocifbaaGreatDoorXiP
import Derived.Test.YtmgcaiilocifbaaGreatDoorXuS
import Derived.Test.YtmgcaiilocifbaaGreatDoorXuF
import Derived.Test.YtmgcaiilocifbaaGreatDoorXdT
import Derived.Test.YtmgcaiilocifbaaGreatDoorChF
import Derived.Deep.DeepCutAuto
import Derived.Deep.CutBlock
import Derived.Maps.OwnOps
namespace Go.Proofs.YtmgcaiilocifbaaGreatDoor
open Go Go.ChangeShapes Go.WideShapes Go.ChangeAt Go.RowKit lib
set_option linter.unusedVariables false
set_option linter.unusedSimpArgs false
set_option maxRecDepth 100000
/-- block b is listed by a used entry -/
def takenX (z : Nat) (U : Nat → UInt8) (E b : Nat) : Prop := ∃ k, k < E ∧ isUsed z U k ∧ (b : Int) ∈ (xen z U k).bl
/-- .. by one that has come out of the map -/
def takenL (z : Nat) (U : Nat → UInt8) (E : Nat) (left : Lit → Bool) (b : Nat) : Prop := ∃ k, k < E ∧ isUsed z U k ∧ left (.int .i64 (k : Int)) = false ∧ (b : Int) ∈ (xen z U k).bl
/-- the data blocks that no used entry lists -/
noncomputable def freeX (z : Nat) (U : Nat → UInt8) (E t i : Nat) : List Nat := (picks (fun j => ¬ takenX z U E (t + j)) i).map (t + ·)
theorem freeX_hit {z : Nat} {U : Nat → UInt8} {E t i : Nat} (h : ¬ takenX z U E (t + i)) : freeX z U E t (i + 1) = freeX z U E t i ++ [t + i] := by
  unfold freeX
  rw [picks_hit h, List.map_append]
  rfl
theorem freeX_miss {z : Nat} {U : Nat → UInt8} {E t i : Nat} (h : takenX z U E (t + i)) : freeX z U E t (i + 1) = freeX z U E t i := by
  unfold freeX
  rw [picks_miss (fun q => q h)]
theorem freeX_len (z : Nat) (U : Nat → UInt8) (E t i : Nat) : (freeX z U E t i).length ≤ i := by
  unfold freeX
  rw [List.length_map]
  exact picks_len _ _
theorem bl_nat {z : Nat} {e : XE} (h : e.ok z) {i : Nat} (hi : i < e.bl.length) : e.bl.getD i 0 = (((e.bl.getD i 0).toNat : Nat) : Int) ∧ (e.bl.getD i 0).toNat < 256 := by
  have := XE.ok_bl h (e.bl.getD i 0) (by rw [List.getD_eq_getElem?_getD, List.getElem?_eq_getElem hi]; exact List.getElem_mem hi)
  omega
/-- all blocks but one stay -/
def AllBut (tb : Nat) (w1 wr : World) : Prop := (∀ q, q < w1.heap.size → q ≠ tb → wr.heap[q]? = w1.heap[q]?) ∧ w1.heap.size ≤ wr.heap.size
theorem AllBut.below {tb : Nat} {w1 wr wr' : World} (h : AllBut tb w1 wr) (hb : Below wr.heap.size wr wr') : AllBut tb w1 wr' := ⟨fun q hq hn => (hb.block q (Nat.lt_of_lt_of_le hq h.2)).trans (h.1 q hq hn), Nat.le_trans h.2 hb.size⟩
theorem AllBut.grown {tb : Nat} {w1 wr wr' : World} {row : Option Nat} (h : AllBut tb w1 wr) (hb : wr.grownBy wr' row) (hr : ∀ q, row = some q → q = tb ∨ w1.heap.size ≤ q) : AllBut tb w1 wr' := ⟨fun q hq hn => (hb.block q (Nat.lt_of_lt_of_le hq h.2) (fun e => by rcases hr q e.symm with h1 | h1; exact hn h1; omega)).trans (h.1 q hq hn), Nat.le_trans h.2 hb.size⟩
theorem Sl.allBut {tb n : Nat} {w1 wr : World} {A : Option Addr} {f : Nat → Value} (h : Sl w1 w1.heap.size A n f) (ha : AllBut tb w1 wr) {es : Array MapEntry} {cl : Nat} (hm : w1.heap[tb]? = some (.map es cl)) : Sl wr wr.heap.size A n f := fun i hi => by
  obtain ⟨b, o, hA, hb, hc⟩ := h i hi
  have hne : b ≠ tb := fun e => by
    subst e
    unfold World.cell? at hc
    rw [hm] at hc
    cases hc
  exact ⟨b, o, hA, Nat.lt_of_lt_of_le hb ha.2, (World.cell?_of_block (w := w1) (ha.1 b hb hne)).trans hc⟩
theorem BSet.isMap {P : Program} {k e : TypeId} {w : World} {b cnt : Nat} {Q : Nat → Prop} (h : BSet P k e w b cnt Q) : ∃ es cl, w.heap[b]? = some (.map es cl) := by
  obtain ⟨D, ⟨es, cl, h1, _⟩, _⟩ := h
  exact ⟨es, cl, h1⟩
set_option maxHeartbeats 4000000 in
theorem implFreeX_any {w : World} {p g n z E t N c : Nat} {u : Nat → UInt8} (h : XW w p g n z E t N c u) (hE : E ≤ 32) (hfit : ∀ k, k < E → z + k * 16 + 16 ≤ N) (hNb : N ≤ 4096) (hcN : N ≤ c) (hz : z ≤ 255) (ht : t ≤ n) (hn : n ≤ 128) :
    Calls Tryz.prog 48 #[.pointer (some ⟨p, 0, none⟩)] w fun r w' => ∃ A2 c2, r = .returned (.slice A2 (freeX z u E t (n - t)).length c2) ∧ NatR w.heap.size w' A2 c2 (freeX z u E t (n - t)) ∧ Below w.heap.size w w' := by
  have hmm := @run_makeMap Tryz.prog
  have hb0 := (Below.refl w.heap.size w).alloc (Nat.le_refl _) (.map #[] 0)
  have HU := Lib.hid (implUsedF_any (h.below hb0) hE hfit hNb hcN hz)
  have HM0 := Lib.hid (BSet.made (P := Tryz.prog) (k := 2) (e := 4) w)
  have HB0 := Lib.hid hb0
  have HSW := Lib.hid (show (w.alloc (.map #[] 0)).heap.size = w.heap.size + 1 by simp)
  have HH := Lib.hid h
  have HZB : Hid (∀ W : World, (zeroValue 4).run Tryz.prog W = .ok (.bool false) W) := Lib.hid (fun W => by rfl)
  have HST := Lib.hid (fun (W : World) (b cnt : Nat) (Q : Nat → Prop) (hW : BSet Tryz.prog 2 4 W b cnt Q) (hc : cnt ≤ 100000) (x : Nat) (hx : x < 1000) => hW.store (t := 81) Tryz.underlying2 Tryz.underlying81 Tryz.underlying4 (by simp only [maxLen]; omega) x hx true)
  have HLQ := Lib.hid (fun (W : World) (b cnt : Nat) (Q : Nat → Prop) (hW : BSet Tryz.prog 2 4 W b cnt Q) (x : Nat) (hx : x < 1000) => hW.look (t := 81) Tryz.underlying2 Tryz.underlying81 Tryz.underlying4 (HZB.out W) x hx)
  have KL := Maps.int_keyed (P := Tryz.prog) (k := 2) Tryz.underlying2
  clear h hb0 hfit
  go_enter Tryz.func48, Tryz.ntmps48
  go_upto_region 2 with fail
  generalize w.alloc (.map #[] 0) = W0 at *
  go_wp2_with (first
    | (go_at_call 45; refine HU.out.mono ?_; rintro r w1 ⟨m, rfl, hmf, ⟨a, cc, hm⟩, hb1⟩; obtain ⟨D, hown, hD⟩ := hm.data)
    | (at_range; refine wpList_range_own _ rfl _ 46 rfl 2 38 KL Tryz.underlying46 asV m E D rfl hown ?_; intro w0 hrg0 hg0 hs0))
  go_frame
  have hs0w : W0.heap.size = w.heap.size + 1 := HSW.out
  have hz0 := HB0.out.size
  have hbs1 := HM0.out.below hb1
  have hw1 : w.heap.size < w1.heap.size := by have := hb1.size; omega
  have hbs0 := hbs1.grown hg0 (by simp)
  obtain ⟨es, cl, hmap⟩ := hbs1.isMap
  have hsl1 : ∀ j, j < E → isUsed z u j → Sl w1 w1.heap.size (a j) (xen z u j).bl.length (fun i => .int .i64 ((xen z u j).bl.getD i 0)) := fun j hj hu => (hm.2 j hj hu).sl
  have hB1 : Below w.heap.size w w1 := HB0.out.trans (hb1.mono hz0)
  have hB0' : Below w.heap.size w w0 := hB1.grown hg0 (by have := hB1.size; omega) (fun j hj => by cases hj)
  have hab0 : AllBut w.heap.size w1 w0 := ⟨fun q hq hn => hg0.block q hq (by simp), hg0.size⟩
  have hszD := hown.size_le
  have hmlt := hown.lt
  have hmtb : m ≠ w.heap.size := by omega
  have HSL := Lib.hid hsl1
  have HMAP := Lib.hid hmap
  have HD := Lib.hid hD
  have HHAS := Lib.hid (fun (j : Nat) (hj : j < E) (hu : isUsed z u j) => has_used hD hj hu (by omega))
  obtain ⟨rr, hrr⟩ : ∃ rr, w1.heap.size = rr := ⟨_, rfl⟩
  rw [hrr] at hrg0 hw1 ⊢
  have HAB0 := Lib.hid hab0
  have HRR := Lib.hid hrr
  clear hsl1 hmap hD hm hab0 hrr hbs1 hb1 hB1 hs0 hown
  go_loopw [5, 7] (fun s5 s7 wr => ∃ (left : Lit → Bool) (cnt tcnt : Nat), wr.ranges Tryz.prog 2 asV m rr E D left cnt ∧ BSet Tryz.prog 2 4 wr w.heap.size tcnt (takenL z u E left) ∧ tcnt + 4 * cnt ≤ 4 * E ∧ AllBut w.heap.size w1 wr ∧ Below w.heap.size w wr) (fun _ _ wr => wr.rangeLeft m rr)
  case atStart =>
    refine ⟨_, _, 0, hrg0, hbs0.congr fun x => ⟨False.elim, ?_⟩, by omega, HAB0.out, hB0'⟩
    rintro ⟨k, hk, hu, hl, _⟩
    rw [HHAS.out k hk hu] at hl
    cases hl
  case round =>
    obtain ⟨left, cnt, tcnt, hrg, hbs, hcn, hab, hb⟩ := hrel
    go_wp2_with (at_next; refine wpList_next_ranges _ rfl _ rfl 2 KL asV (Value.int .i64) (fun v : Value => v) (fun key kl hk => by obtain ⟨x, hx, _⟩ := Maps.keyOf_int_inv Tryz.underlying2 hk; exact ⟨x, hx⟩) (fun v y hv => ⟨v, rfl⟩) m rr E D left cnt rfl hrg ?_ ?_)
    · intro hc0 hl0
      have hbQ := hbs.congr (Q' := takenX z u E) (fun x => ⟨fun ⟨k, h1, h2, _, h4⟩ => ⟨k, h1, h2, h4⟩, fun ⟨k, h1, h2, h4⟩ => ⟨k, h1, h2, hl0 _, h4⟩⟩)
      have HBQ := Lib.hid hbQ
      have hx0 := (HH.out.below hb).c0
      have hx3 := (HH.out.below hb).c3
      have htc : tcnt ≤ 128 := by omega
      clear hbs hbQ hrg hl0
      go_wp2_with fail
      obtain ⟨WW, hWW⟩ : ∃ W, W = wr := ⟨_, rfl⟩
      subst hWW
      go_loopw [8, 9] (fun s8 s9 wq => ∃ (i b c2 : Nat) (A2 : Option Addr), i ≤ n - t ∧ t + i = b ∧ s9 = .int .i64 (b : Int) ∧ s8 = .slice A2 (freeX z u E t i).length c2 ∧ NatR WW.heap.size wq A2 c2 (freeX z u E t i) ∧ Below WW.heap.size WW wq) (fun _ i _ => n - (intOf i).toNat)
      case atStart => exact ⟨0, t, 0, none, Nat.zero_le _, rfl, rfl, rfl, natR_nil _ _, Below.refl _ _⟩
      case round =>
        obtain ⟨i, b, c2, A2, hi, hbi, rfl, rfl, hna, hbb⟩ := hrel
        have hzq := hbb.size
        have hlen := freeX_len z u E t i
        have hw0 := (HH.out.below (hb.trans (hbb.mono hb.size))).c0
        by_cases hlt : b < n
        · obtain ⟨v, hrun, hv⟩ := HLQ.out wr w.heap.size tcnt _ (HBQ.out.below hbb) b (by omega)
          have HNA := Lib.hid hna
          have HBI := Lib.hid hbi
          clear hna
          by_cases hq : takenX z u E b
          · have hvt : v = true := hv.2 hq
            subst hvt
            have HF := Lib.hid (freeX_miss (i := i) (show takenX z u E (t + i) by rw [hbi]; exact hq))
            clear hv hq hbi
            go_wp2_with fail
            go_roundw
            case rel => exact ⟨i + 1, b + 1, c2, A2, by have := HBI.out; omega, by have := HBI.out; omega, by go_num, by rw [HF.out], by rw [HF.out]; exact HNA.out, hbb⟩
            case measure => simp [intOf]; omega
          · have hvt : v = false := by
              cases v with
              | false => rfl
              | true => exact absurd (hv.1 rfl) hq
            subst hvt
            have HF := Lib.hid (freeX_hit (i := i) (show ¬ takenX z u E (t + i) by rw [hbi]; exact hq))
            have hna2 := HNA.out
            unfold NatR at hna2
            have HN2 := Lib.hid hna2
            have hln : (freeX z u E t i).length ≤ 1000 := by omega
            clear hv hq hna2 hbi hlen
            go_wp2_with (at_builtin; refine wpList_pushN (.tmp 46) (.tmp 48) 33 WW.heap.size 2 (.int .i64 0) [.int .i64 (b : Int)] 1 8 _ (freeX z u E t i).length _ HN2.out rfl rfl Tryz.underlying33 infoIX rfl (by omega) rfl rfl rfl rfl (by intro u hu; simp at hu; subst hu; rfl) (by omega) (by omega) hzq ?_; intro A4 c4 w4 ho4 hg4)
            go_roundw
            case rel =>
              refine ⟨i + 1, b + 1, c4, some A4, by have := HBI.out; omega, by have := HBI.out; omega, by go_num, by rw [HF.out, List.length_append]; rfl, ?_, hbb.grown hg4 hzq (fun j hj => own_lt HN2.out j hj)⟩
              unfold NatR
              rw [HF.out, List.map_append, List.length_append, HBI.out]
              exact ho4
            case measure => simp [intOf]; omega
        · obtain rfl : i = n - t := by omega
          go_wp2_with fail
          go_ret
          exact ⟨A2, c2, rfl, hna.base hb.size, hb.trans (hbb.mono hb.size)⟩
    · intro x cv kl y1 y2 w2 cnt1 hkey hlx hR hat hrg1 hlt hg1 hs1 hen
      obtain ⟨j, hjE, hu, rfl, rfl, rfl⟩ := entry_is (y := (y1, y2)) HD.out Tryz.underlying2 hkey hR hat
      obtain ⟨e, he⟩ : ∃ e, e = xen z u j := ⟨_, rfl⟩
      obtain ⟨ka, hka⟩ : ∃ x, x = a j := ⟨_, rfl⟩
      obtain ⟨kc, hkc⟩ : ∃ x, x = cc j := ⟨_, rfl⟩
      have hsj := (HSL.out j hjE hu)
      have heok := xen_ok z u j
      rw [← he, ← hka] at hsj
      rw [← he] at heok
      rw [← he, ← hka, ← hkc] at hen
      unfold XE.val at hen
      have hbl4 := XE.ok_len heok
      have hrlt : rr < wr.heap.size := hrg.lt
      have htlt : w.heap.size ≠ rr := by omega
      have hb2 := hb.grown hg1 hb.size (fun j hj => by injection hj with hj; omega)
      have hab2 := hab.grown hg1 (fun q hq => by injection hq with hq; right; have := HRR.out; omega)
      have hbs2 := hbs.grown hg1 (by simp; omega)
      have HOKE := Lib.hid heok
      have HSJ := Lib.hid hsj
      have HE := Lib.hid he
      have HLT := Lib.hid hlt
      have HLX := Lib.hid hlx
      have HU := Lib.hid hu
      have HRG := Lib.hid hrg
      clear he hka hkc hkey hR hat heok hsj hlt hlx hu hrg
      have hal := (Below.refl w2.heap.size w2).alloc (Nat.le_refl _) (.cells #[.int .i64 e.st, .string e.nm, .int .i64 e.no, .int .i64 e.tl, .slice ka e.bl.length kc] 38)
      have hab3 := hab2.below hal
      have hbs3 := hbs2.below hal
      have hrg3 := hrg1.alloc (.cells #[.int .i64 e.st, .string e.nm, .int .i64 e.no, .int .i64 e.tl, .slice ka e.bl.length kc] 38)
      have hb3 := hb2.trans (hal.mono hb2.size)
      go_upto_region 6 with fail
      generalize w2.alloc (.cells #[.int .i64 e.st, .string e.nm, .int .i64 e.no, .int .i64 e.tl, .slice ka e.bl.length kc] 38) = W3 at *
      have HAB3 := Lib.hid hab3
      have HBS3 := Lib.hid hbs3
      have HRG3 := Lib.hid hrg3
      have HB3 := Lib.hid hb3
      clear hal hab3 hbs3 hrg3 hb3 hab2 hbs2 hrg1 hb2 hg1 hs1 hen hbs hab hb
      go_loopw [7, 21] (fun s7 s21 wq => ∃ (i tc : Nat), i ≤ e.bl.length ∧ s21 = .int .i64 i ∧ BSet Tryz.prog 2 4 wq w.heap.size tc (fun x => takenL z u E left x ∨ ∃ i', i' < i ∧ (x : Int) = e.bl.getD i' 0) ∧ tc ≤ tcnt + i ∧ wq.ranges Tryz.prog 2 asV m rr E D (fun q => left q && !q.sameKey (.int .i64 (j : Int))) cnt1 ∧ AllBut w.heap.size w1 wq ∧ Below w.heap.size w wq) (fun _ i _ => e.bl.length - (intOf i).toNat)
      case atStart => exact ⟨0, tcnt, Nat.zero_le _, rfl, HBS3.out.congr fun x => ⟨.inl, fun h => h.elim id fun ⟨i', h, _⟩ => absurd h (by omega)⟩, by omega, HRG3.out, HAB3.out, HB3.out⟩
      case round =>
        obtain ⟨i, tc, hi, rfl, hbs, htc, hrg, hab, hb⟩ := hrel
        by_cases hlt : i < e.bl.length
        · obtain ⟨hv, hv2⟩ := bl_nat HOKE.out hlt
          obtain ⟨b2, o2, rfl, hb2l, hcj⟩ := (Sl.allBut HSJ.out hab HMAP.out) i hlt
          dsimp only at hcj
          obtain ⟨xb, hxb⟩ : ∃ xb, (e.bl.getD i 0).toNat = xb := ⟨_, rfl⟩
          rw [hxb] at hv hv2
          rw [hv] at hcj
          obtain ⟨w4, hrun, hbs4, hg4⟩ := HST.out wr w.heap.size tc _ hbs (by omega) xb (by omega)
          have HV := Lib.hid hv
          have HBS4 := Lib.hid hbs4
          have HRG := Lib.hid hrg
          have HAB := Lib.hid hab
          clear hv hxb hbs hbs4 hrg hab
          go_wp2_with fail
          go_roundw
          case rel =>
            refine ⟨i + 1, tc + 1, by omega, by go_num, HBS4.out.congr fun x => ?_, by omega, HRG.out.kept hg4 (by simp; omega) (by simp; omega), HAB.out.grown hg4 (fun q hq => by injection hq with hq; left; exact hq.symm), hb.grown hg4 hb.size (fun q hq => by injection hq with hq; omega)⟩
            have hvx := HV.out
            by_cases hx : x = xb
            · subst hx
              simp only [if_pos]
              exact ⟨fun _ => .inr ⟨i, by omega, hvx.symm⟩, fun _ => trivial⟩
            · rw [if_neg hx]
              constructor
              · rintro (h | ⟨i', h1, h2⟩)
                · exact .inl h
                · exact .inr ⟨i', by omega, h2⟩
              · rintro (h | ⟨i', h1, h2⟩)
                · exact .inl h
                · rcases Nat.lt_succ_iff_lt_or_eq.1 h1 with h3 | rfl
                  · exact .inr ⟨i', h3, h2⟩
                  · rw [hvx] at h2
                    omega
          case measure => simp [intOf]; omega
        · obtain rfl : i = e.bl.length := by omega
          have hcc := HLT.out
          have HRGN := Lib.hid hrg
          have HBSN := Lib.hid hbs
          clear hrg hbs
          go_wp2_with fail
          go_roundw
          case rel =>
            refine ⟨_, cnt1, tc, HRGN.out, HBSN.out.congr fun x => ?_, by omega, hab, hb⟩
            constructor
            · rintro (⟨k, h1, h2, h3, h4⟩ | ⟨i', h1, h2⟩)
              · exact ⟨k, h1, h2, (left_step (by omega)).2 (.inl h3), h4⟩
              · refine ⟨j, hjE, HU.out, (left_step (by omega)).2 (.inr rfl), ?_⟩
                rw [← HE.out, h2, List.getD_eq_getElem?_getD, List.getElem?_eq_getElem h1]
                exact List.getElem_mem h1
            · rintro ⟨k, h1, h2, h3, h4⟩
              rcases (left_step (by omega)).1 h3 with h5 | rfl
              · exact .inl ⟨k, h1, h2, h5, h4⟩
              · rw [← HE.out] at h4
                obtain ⟨i', hi', he'⟩ := List.mem_iff_getElem.1 h4
                exact .inr ⟨i', hi', by rw [← he', List.getD_eq_getElem?_getD, List.getElem?_eq_getElem hi']; rfl⟩
          case measure => rw [HRGN.out.left_eq, HRG.out.left_eq]; exact HLT.out
end Go.Proofs.YtmgcaiilocifbaaGreatDoor
