/-
  Disks of chains: the blocks that a deleted file probably had, both sides.
-/
import Derived.Test.YtgmmigbaaigldaaGreatDoorOpenGone
import Derived.ArgAppend
namespace Go.Proofs.YtgmmigbaaigldaaGreatDoor
open Go Go.ChangeShapes Go.WideShapes Go.ChangeAt Go.RowKit lib
set_option linter.unusedVariables false
set_option maxRecDepth 100000
section
variable {P : Program} {w w0 : World}
/-- 'out = append(out, x)', x of one cell: the row is the old one or a new one -/
theorem wpList_pushX {ops : Array Oper} {rest : List Oper} {o : Oper} {a : Act} {Q : Exit → Act → World → Prop} (s x : Operand) (t : TypeId) (base e : Nat) (z u : Value) (bytes : Nat) (v : Value) (n : Nat) (xs : List Value)
    (hown : w0.ownsRow base e 1 v n xs) (hg : o.guard = none) (hop : o.op = .call { callee := .builtin .append, args := #[s, x], argTypes := #[t, t] })
    (h1 : P.underlying t = some (.slice e)) (hinfo : (P.info? e).map (fun i => (i.zero, i.size, i.bytes)) = some (some z, 1, bytes)) (hz : z.cells.size = 1)
    (hs : a.eval s = v) (hx : a.eval x = .slice (some ⟨w0.heap.size, 0, none⟩) 1 1) (hw : w = w0.alloc (.cells #[u] e)) (hu : u.oneCell' = true) (hn : n ≤ 1099511627776) (hby : bytes ≤ 64) (hbase : base ≤ w0.heap.size)
    (hK : ∀ A' c' w1, w1.ownsRow base e 1 (.slice (some A') (n + 1) c') (n + 1) (xs ++ [u]) → w0.grownBy w1 v.ownBlock → ((Value.slice (some A') (n + 1) c').ownBlock = v.ownBlock ∨ ∀ j, (Value.slice (some A') (n + 1) c').ownBlock = some j → w0.heap.size ≤ j) → wpList P ops Q rest (a.put o.dst (.slice (some A') (n + 1) c')) w1) :
    wpList P ops Q (o :: rest) a w := by
  obtain ⟨i0, hi, hz0, hz1, hz2⟩ := info_parts hinfo
  subst hw
  have hb : (n + 1) * bytes ≤ 140737488355328 := by
    have := Nat.mul_le_mul (show n + 1 ≤ 1099511627777 by omega) hby
    omega
  have hnew : ∀ j q, ([u] : List Value)[j]? = some q → (w0.alloc (.cells #[u] e)).cell? ((⟨w0.heap.size, 0, none⟩ : Addr).add j) = some q := by
    intro j q hq
    match j, hq with
    | 0, hq => simp at hq; subst hq; simp [Addr.add, World.cell?_alloc_new]
  have hone : ∀ q ∈ ([u] : List Value), q.oneCell' = true := by intro q hq; simp at hq; subst hq; exact hu
  have grow : ∀ v' w', w'.ownsRow (w0.alloc (.cells #[u] e)).heap.size e 1 v' (n + 1) (xs ++ [u]) → (w0.alloc (.cells #[u] e)).grownBy w' none → wpList P ops Q rest (a.put o.dst v') w' := by
    intro v' w' ho hgr
    obtain ⟨g, cap, rfl, _, _⟩ := ho.form (by omega)
    refine hK _ _ _ (own_base ho (by simp; omega)) (only_trans (only_alloc (only_refl _ _) _) ⟨hgr.os, hgr.tape, hgr.output, hgr.size, fun i hi hn => hgr.block i hi (by simp)⟩) (.inr fun j hj => ?_)
    have := own_lt ho j hj
    simp at this
    omega
  rcases hown.2 with ⟨hv, h0⟩ | ⟨g, cap, cur, hv, hgb, hgx, hnc, hmx, hcs, ht⟩
  · subst hv
    have hn0 : n = 0 := by omega
    subst hn0
    have hx0 : xs = [] := List.eq_nil_of_length_eq_zero (by have := hown.1; omega)
    subst hx0
    exact wpList_append_grows _ hg s x t hop e i0 z 1 bytes h1 hi hz0 hz1 hz2 hz (by decide) none 0 0 [] hs (fun _ => ⟨rfl, rfl⟩) rfl (fun b hb => by cases hb) ⟨w0.heap.size, 0, none⟩ 1 1 [u] hx rfl hnew hone (by omega) (by simp only [maxLen]; omega) hb grow
  · subst hv
    by_cases hroom : n + 1 ≤ cap
    · refine wpList_append_fits _ hg s x t hop base e i0 1 h1 hi hz1 g n cap xs hs (hown.alloc _) ⟨w0.heap.size, 0, none⟩ 1 1 [u] hx rfl hnew hone hroom fun w' ho hgr => ?_
      exact hK _ _ _ ho (only_trans (only_alloc (only_refl _ _) _) hgr) (.inl rfl)
    · refine wpList_append_grows _ hg s x t hop e i0 z 1 bytes h1 hi hz0 hz1 hz2 hz (by decide) (some ⟨g, 0, none⟩) n cap xs hs (fun h => by cases h) hown.1 (fun b hb j q hq => ?_) ⟨w0.heap.size, 0, none⟩ 1 1 [u] hx rfl hnew hone (by omega) (by simp only [maxLen]; omega) hb grow
      obtain rfl := Option.some.inj hb
      rw [Addr.add_lit]
      refine Lib.cell?_alloc_some _ ?_
      rw [Nat.zero_add]
      have hr : Row w0 g e cur := Row.of hgx
      rw [hr.cell]
      rw [← ht, List.getElem?_take] at hq
      split at hq
      · simpa using hq
      · cases hq
end
/-- what a list of the call's own holds -/
theorem IntsR.look {B c : Nat} {w : World} {A : Option Addr} {l : List Nat} (h : IntsR B w A c l) (hl : 0 < l.length) : ∃ q, A = some ⟨q, 0, none⟩ ∧ B ≤ q ∧ q < w.heap.size ∧ ∀ i, i < l.length → w.cell? ⟨q, i, none⟩ = some (.int .i64 ((l.getD i 0 : Nat) : Int)) := by
  rcases h.2 with ⟨hv, h0⟩ | ⟨g, cap, cur, hv, hb, hg, hnc, hmx, hcs, ht⟩
  · omega
  · injection hv with h1 h2 h3
    refine ⟨g, h1, hb, ?_, fun i hi => ?_⟩
    · rcases Nat.lt_or_ge g w.heap.size with h | h
      · exact h
      · rw [Array.getElem?_eq_none h] at hg; cases hg
    · have hr : Row w g 2 cur := Row.of hg
      rw [hr.cell, ← Array.getElem?_toList]
      have e : (cur.toList.take (l.length * 1))[i]? = cur.toList[i]? := by rw [List.getElem?_take, if_pos (by omega)]
      rw [← e, ht, List.getElem?_map, List.getElem?_eq_getElem hi, Option.map_some, List.getD_eq_getElem?_getD, List.getElem?_eq_getElem hi]
      rfl
theorem apart_new {B c : Nat} {w : World} {A : Option Addr} {l : List Nat} {v v' : Value} (h : IntsR B w A c l) (hap : (Value.slice A l.length c).ownBlock = none ∨ v.ownBlock ≠ (Value.slice A l.length c).ownBlock) (hx : v'.ownBlock = v.ownBlock ∨ ∀ j, v'.ownBlock = some j → w.heap.size ≤ j) : (Value.slice A l.length c).ownBlock = none ∨ v'.ownBlock ≠ (Value.slice A l.length c).ownBlock := by
  rcases hx with e | hx
  · rw [e]; exact hap
  · cases hv : (Value.slice A l.length c).ownBlock with
    | none => exact .inl rfl
    | some j =>
      right
      intro e
      have h1 := (World.ownsRow.lt h j hv).2
      have h2 := hx j e
      omega
/-- how the search for the blocks ends -/
def GbOut (L : List Nat) (f N : Nat) (r : Ending) (w w' : World) : Prop := Below w.heap.size w w' ∧
      (N = 0 → r = .returned (.tuple #[.slice none 0 0, .bool true])) ∧
      (N ≠ 0 → gbOk L f N → ∃ q o c', r = .returned (.tuple #[.slice (some ⟨q, o, none⟩) N c', .bool true]) ∧ w.heap.size ≤ q ∧ q < w'.heap.size ∧ ∀ i, i < N → w'.cell? ⟨q, o + i, none⟩ = some (.int .i64 (((gbL L f N).getD i 0 : Nat) : Int))) ∧
      (¬ gbOk L f N → r = .returned (.tuple #[.slice none 0 0, .bool false]))
set_option maxHeartbeats 2000000 in
theorem implGoneB_any {w : World} {p g n z E d t N c : Nat} {u : Nat → UInt8} {nm : ByteArray} {f ln : Nat} {us de : Bool} (h : ChW w p g n z E d t N c u) (hz : 0 < z) (hz2 : z ≤ 64) (hn : n ≤ 128) (ht : t ≤ n) (hNz : z + n ≤ N) (hN : N ≤ 4096) (hf : f ≤ 255) (hl : ln ≤ 512) :
    Calls Tryz.prog 25 #[.pointer (some ⟨p, 0, none⟩), .agg #[.string nm, .int .i64 f, .int .i64 ln, .bool us, .bool de]] w fun r w' => GbOut (freeN u z t (n - t)) f (needN z ln) r w w' := by
  have hbA := (Below.refl w.heap.size w).alloc (Nat.le_refl _) (.cells #[.string nm, .int .i64 f, .int .i64 ln, .bool us, .bool de] 34)
  have HC1 := Lib.hid (h.below hbA)
  have HB1 := Lib.hid hbA
  have hR := Rw.new w 34 #[.string nm, .int .i64 f, .int .i64 ln, .bool us, .bool de]
  have q2 := hR.cell 2
  have RE := Lib.hid hR
  have c1 := HC1.out.c1
  obtain ⟨N1, hN1⟩ : ∃ N1, needN z ln = N1 := ⟨_, rfl⟩
  have hNle : N1 ≤ 600 := by rw [← hN1]; have : needN z ln ≤ ln + z - 1 := Nat.div_le_self _ _; omega
  have hceil : ((ln : Int) + z - 1) / z = (N1 : Int) := by
    rw [← hN1]
    unfold needN
    rw [show (ln : Int) + z - 1 = ((ln + z - 1 : Nat) : Int) by omega]
    rfl
  have HCE := Lib.hid (fun W => ceiling_any (ln : Int) (z : Int) (N1 : Int) W hceil (by omega) (by omega) (by omega) (by omega))
  have HUP := Lib.hid (freeN_up u z t (n - t))
  have hlen := freeN_le u z t (n - t)
  have HFR := Lib.hid (fun (W : World) (hW : ChW W p g n z E d t N c u) => implFree_any hW ht hn hNz hN)
  rw [hN1]
  obtain ⟨L, hL⟩ : ∃ L, freeN u z t (n - t) = L := ⟨_, rfl⟩
  rw [hL] at HUP hlen HFR ⊢
  clear hceil hN1 hL h hR hbA
  go_enter Tryz.func25, Tryz.ntmps25
  go_upto_region 1 with fail
  have HZ1 := Lib.hid (show w.heap.size ≤ (w.alloc (.cells #[.string nm, .int .i64 f, .int .i64 ln, .bool us, .bool de] 34)).heap.size from by simp)
  generalize w.alloc (.cells #[.string nm, .int .i64 f, .int .i64 ln, .bool us, .bool de] 34) = W1 at *
  go_cut [6] (fun s6 wx => s6 = .int .i64 (N1 : Int) ∧ wx = W1.drew)
  case first =>
    go_region_law (go_simp; go_at_call 46; refine (HCE.out _).mono ?_; rintro e6 w6 ⟨rfl, rfl⟩)
    all_goals
      go_wp2_with fail
      go_meet
      exact ⟨rfl, rfl⟩
  case rest =>
  obtain ⟨rfl, rfl⟩ := hcut
  have HC2 := Lib.hid (HC1.out.drew)
  have RE2 := Lib.hid (RE.out.drew)
  have HB2 := Lib.hid (HB1.out.drew)
  rcases Nat.eq_zero_or_pos N1 with rfl | hpos
  · go_wp2_with fail
    go_ret2
    exact ⟨HB2.out, fun _ => rfl, fun h => absurd rfl h, fun h => absurd (.inl rfl) h⟩
  · have i1 : ((N1 : Int) == 0) = false := by simp; omega
    have i2 : ((N1 : Int) = 0) = False := by simp; omega
    go_upto_region 6 with (first
      | (go_at_call 47; refine (HFR.out _ HC2.out).mono ?_; rintro r w3 ⟨A3, c3, rfl, ho3, hb3⟩; have r3 := RE2.out.below hb3 RE2.out.lt; have x1 := r3.cell 1; have hi3 : IntsR W1.drew.heap.size w3 A3 c3 L := ho3)
      | (go_at_call 48; refine (search_any f hi3.sl HUP.out (by omega)).mono ?_; rintro r w4 ⟨at', b, hb, ha1, ha2, ha3, rfl, rfl⟩))
    have HI := Lib.hid hi3
    have HB3 := Lib.hid (HB2.out.trans (hb3.mono HB2.out.size))
    have HOKI := Lib.hid (gb_ok hpos ha1 ha2 ha3)
    have HGD := Lib.hid (fun i hi => gb_getD (N := N1) (i := i) ha1 ha2 ha3 hi)
    clear ho3 hi3 r3 x1 ha2 ha3
    have HZ3 := Lib.hid (show w.heap.size ≤ w4.heap.size from HB3.out.size)
    cases b
    · have hno : ¬ gbOk L f N1 := fun q => by
        have h1 := HOKI.out.1 q
        have h2 := hb.2 ⟨h1.1, h1.2.1⟩
        cases h2
      have HNO := Lib.hid hno
      clear hno hb
      go_wp2_with fail
      go_ret2
      exact ⟨HB3.out, fun h => absurd h (by omega), fun _ h => absurd h HNO.out, fun _ => rfl⟩
    · have hok := hb.1 rfl
      have hal := hok.1
      have HO2 := Lib.hid hok.2
      clear hok hb
      by_cases hge : N1 ≤ L.length - at'
      · have i3 : ¬ ((L.length : Int) - at' < N1) := by omega
        have hcap := HI.out.cap
        obtain ⟨q, rfl, hqB, hqlt, hqc⟩ := HI.out.look (by omega)
        have k1 : ¬ c3 = at' := by omega
        have k2 : (at' : Int) + N1 ≤ c3 := by omega
        have HQC := Lib.hid hqc
        have HZZ := Lib.hid hqB
        clear hqc
        go_wp2_with (go_at_call 49; refine (sizeI_any _ _ _ _ (by omega)).mono ?_; rintro e7 w7 ⟨rfl, rfl⟩)
        have en : at' + N1 - at' = N1 := by omega
        have HZQ := Lib.hid (Nat.le_trans HZ1.out HZZ.out)
        have HQL := Lib.hid hqlt
        go_ret2
        exact ⟨HB3.out, fun h => absurd h (by omega), fun _ _ => ⟨q, at', c3 - at', by rw [en]; rfl, HZQ.out, HQL.out, fun i hi => by rw [HGD.out i hi]; exact HQC.out (at' + i) (by omega)⟩, fun h => absurd (HOKI.out.2 ⟨hal, HO2.out, hge⟩) h⟩
      · have i3 : ((L.length : Int) - at' < N1) := by omega
        have HNO := Lib.hid (show ¬ gbOk L f N1 from fun q => hge (HOKI.out.1 q).2.2)
        go_wp2_with (go_at_call 49; refine (sizeI_any _ _ _ _ (by omega)).mono ?_; rintro e7 w7 ⟨rfl, rfl⟩)
        go_ret2
        exact ⟨HB3.out, fun h => absurd h (by omega), fun _ h => absurd h HNO.out, fun _ => rfl⟩
def GbOutS (L : List Nat) (f N : Nat) (r : Ending) (w w' : World) : Prop := ∃ A c' b, (b = true ↔ gbOk L f N) ∧ r = .returned (.tuple #[.slice A (gbL L f N).length c', .bool b]) ∧ IntsR w.heap.size w' A c' (gbL L f N) ∧ Below w.heap.size w w'
set_option maxHeartbeats 4000000 in
theorem specGoneB_any {w : World} {p g n z E d t N c eb : Nat} {u : Nat → UInt8} {nm : ByteArray} {f ln : Nat} {us de : Bool} (h : ChW w p g n z E d t N c u) (hR : Rw w eb 34 #[.string nm, .int .i64 f, .int .i64 ln, .bool us, .bool de]) (hz : 0 < z) (hz2 : z ≤ 64) (hn : n ≤ 128) (ht : t ≤ n) (hNz : z + n ≤ N) (hN : N ≤ 4096) (hf : f ≤ 255) (hl : ln ≤ 512) :
    Calls Tryz.prog 19 #[.pointer (some ⟨p, 0, none⟩), .pointer (some ⟨eb, 0, none⟩)] w fun r w' => GbOutS (freeN u z t (n - t)) f (needN z ln) r w w' := by
  have HC1 := Lib.hid h
  have q2 := hR.cell 2
  have RE := Lib.hid hR
  obtain ⟨N1, hN1⟩ : ∃ N1, needN z ln = N1 := ⟨_, rfl⟩
  have hNle : N1 ≤ 600 := by rw [← hN1]; have : needN z ln ≤ ln + z - 1 := Nat.div_le_self _ _; omega
  have HND := Lib.hid (specNeed_any ln h hz hz2 hl)
  rw [hN1] at HND
  have hlen := freeN_le u z t (n - t)
  have HFR := Lib.hid (fun (W : World) (hW : ChW W p g n z E d t N c u) => specFree_any hW ht hn hNz hN)
  rw [hN1]
  obtain ⟨L, hL⟩ : ∃ L, freeN u z t (n - t) = L := ⟨_, rfl⟩
  rw [hL] at hlen HFR ⊢
  have HWD := Lib.hid (Below.refl w.heap.size w).drew
  have HBO := Lib.hid ((Below.refl w.drew.heap.size w.drew).alloc (Nat.le_refl _) (.cells #[] 2))
  have HOO := Lib.hid (own_nil0 w.drew 2)
  have hwd : w.drew.heap.size = w.heap.size := rfl
  have hal : (w.drew.alloc (.cells #[] 2)).heap.size = w.heap.size + 1 := by simp
  clear hN1 hL h hR
  go_enter Tryz.func19, Tryz.ntmps19
  go_wp2_with (first
    | (go_at_call 38; refine HND.out.mono ?_; rintro e6 w6 ⟨rfl, rfl⟩)
    | (go_at_call 39; refine (HFR.out _ ((HC1.out.drew).below HBO.out)).mono ?_; rintro r w3 ⟨A3, c3, rfl, ho3, hb3⟩))
  have hi3 : IntsR (w.drew.alloc (.cells #[] 2)).heap.size w3 A3 c3 L := ho3
  have HF3 := Lib.hid hi3
  have R3 := Lib.hid ((RE.out.drew.below HBO.out RE.out.drew.lt).below hb3 (Nat.lt_of_lt_of_le RE.out.drew.lt HBO.out.size))
  have HO3 := Lib.hid (own_below HOO.out hb3)
  have HB3 := Lib.hid ((HWD.out.trans (HBO.out.mono HWD.out.size)).trans (hb3.mono (Nat.le_trans HWD.out.size HBO.out.size)))
  have hz3 := hb3.size
  rw [hal] at hi3 hz3
  have hap : (Value.slice A3 L.length c3).ownBlock = none ∨ (Value.slice (some ⟨w.heap.size, 0, none⟩) 0 0).ownBlock ≠ (Value.slice A3 L.length c3).ownBlock := own_not (o := w.heap.size) hi3 (by omega)
  clear hi3 ho3 q2
  go_loopw [7, 9] (fun s7 s9 wr => ∃ (i : Nat) (A : Option Addr) (c' : Nat), i ≤ L.length ∧ (gbGo L f i).length ≤ N1 ∧ s7 = .slice A (gbGo L f i).length c' ∧ s9 = .int .i64 i ∧ IntsR w.heap.size wr A c' (gbGo L f i) ∧ IntsR (w.heap.size + 1) wr A3 c3 L ∧ Rw wr eb 34 #[.string nm, .int .i64 f, .int .i64 ln, .bool us, .bool de] ∧ ((Value.slice A3 L.length c3).ownBlock = none ∨ (Value.slice A (gbGo L f i).length c').ownBlock ≠ (Value.slice A3 L.length c3).ownBlock) ∧ Below w.heap.size w wr) (fun _ s _ => L.length - (intOf s).toNat)
  case atStart => exact ⟨0, _, 0, by omega, Nat.zero_le _, rfl, rfl, HO3.out, by rw [← hal]; exact HF3.out, R3.out, hap, HB3.out⟩
  case round =>
    obtain ⟨i, A, c', hi, hgl, rfl, rfl, hio, hif, hre, hap2, hb⟩ := hrel
    have HIO := Lib.hid hio
    have HIF := Lib.hid hif
    have HRE := Lib.hid hre
    have HAP := Lib.hid hap2
    have HB := Lib.hid hb
    have hbz := hb.size
    have e1 := hre.cell 1
    have hgi := gbGo_le L f i
    clear hio hre hap2 hb
    by_cases hlt : i < L.length
    · by_cases hgn : (gbGo L f i).length < N1
      · have hgs := gbGo_succ (f := f) hlt
        obtain ⟨bb, oo, hA, hbb, hcc⟩ := hif.sl i hlt
        dsimp only at hcc
        obtain ⟨y, hy⟩ : ∃ y, L.getD i 0 = y := ⟨_, rfl⟩
        rw [hy] at hcc hgs
        subst hA
        have HGS := Lib.hid hgs
        clear hif hy hgs
        obtain ⟨G, hG⟩ : ∃ G, gbGo L f i = G := ⟨_, rfl⟩
        rw [hG] at hgl HIO HAP HGS hgi hgn ⊢
        clear hG
        have j1 : (G.length : Int) < N1 := by omega
        by_cases hfy : f ≤ y
        · have j2 : (f : Int) ≤ y := by omega
          rw [if_pos hfy] at HGS
          go_upto_region 7 with fail
          go_region
          have hcd : wr.drew.cell? ⟨bb, oo + i, none⟩ = some (.int .i64 (y : Int)) := hcc
          have hzd : w.heap.size ≤ wr.drew.heap.size := hbz
          go_wp2_with (at_builtin; refine wpList_pushX (.tmp 40) (.tmp 45) 38 w.heap.size 2 (.int .i64 0) _ 8 _ G.length _ HIO.out.drew rfl rfl Tryz.underlying38 infoI64 rfl rfl rfl rfl rfl (by omega) (by omega) hzd ?_; intro A' c2 w4 ho4 hg4 hx4)
          go_roundw
          case rel => exact ⟨i + 1, some A', c2, by omega, by rw [HGS.out]; simp; omega, by rw [HGS.out]; simp, by go_num, by rw [HGS.out]; exact intsR_snoc ho4, HIF.out.drew.grown hg4 HAP.out, rw_grown HRE.out.drew hg4 (own_ne HIO.out.drew HRE.out.drew tE1), apart_new HIF.out.drew HAP.out hx4, HB.out.drew.grown hg4 hzd (own_lt HIO.out)⟩
          case measure => simp [intOf]; omega
        · have j2 : ¬ (f : Int) ≤ y := by omega
          rw [if_neg hfy, List.append_nil] at HGS
          go_upto_region 7 with fail
          go_region
          go_wp2_with fail
          go_roundw
          case rel => exact ⟨i + 1, A, c', by omega, by rw [HGS.out]; exact hgl, by rw [HGS.out], by go_num, by rw [HGS.out]; exact HIO.out.drew, HIF.out.drew, HRE.out.drew, by rw [HGS.out]; exact HAP.out, HB.out.drew⟩
          case measure => simp [intOf]; omega
      · have hG : gbGo L f i = gbL L f N1 := gbGo_full (by omega)
        clear hif
        rw [hG] at HIO hgl hgi hgn
        have HGI := Lib.hid hgi
        rw [hG]
        clear hG hgi
        obtain ⟨G, hGG⟩ : ∃ G, gbL L f N1 = G := ⟨_, rfl⟩
        have HGG := Lib.hid hGG
        rw [hGG] at HIO hgl hgn
        rw [hGG]
        clear hGG
        have hgn2 : ¬ ((G.length : Int) < N1) := by omega
        rcases Nat.eq_zero_or_pos N1 with rfl | hpos
        · go_upto_region 9 with fail
          go_quiet (fail)
          go_wp2
          go_ret2
          exact ⟨A, c', true, by simp [gbOk], by rw [HGG.out]; rfl, by rw [HGG.out]; exact HIO.out.below ((Below.refl _ _).drewN _), HB.out.drewN _⟩
        · have m1 : ((N1 : Int) == 0) = false := by simp; omega
          have m2 : ((N1 : Int) = 0) = False := by simp; omega
          by_cases hgeq : G.length = N1
          · have m3 : ((G.length : Int) == (N1 : Int)) = true := by simp; omega
            obtain ⟨b0, o0, hA0, hb0, hc0⟩ := HIO.out.sl 0 (by omega)
            obtain ⟨x, hx⟩ : ∃ x, G.getD 0 0 = x := ⟨_, rfl⟩
            dsimp only at hc0
            rw [Nat.add_zero] at hc0
            have m5 : 0 < G.length := by omega
            rw [hx] at hc0
            have HX := Lib.hid hx
            subst hA0
            clear hx
            have m4 : ((x : Int) == (f : Int)) = decide (x = f) := by
              rw [Bool.eq_iff_iff]; simp only [beq_iff_eq, decide_eq_true_eq]; omega
            go_upto_region 9 with fail
            go_quiet (fail)
            go_wp2
            go_ret2
            exact ⟨_, c', decide (x = f), by unfold gbOk; rw [HGG.out, HX.out, decide_eq_true_eq]; exact ⟨fun h => .inr ⟨hgeq, h⟩, fun h => h.elim (fun h => by omega) fun h => h.2⟩, by rw [HGG.out, hgeq]; rfl, by rw [HGG.out]; exact HIO.out.below ((Below.refl _ _).drewN _), HB.out.drewN _⟩
          · have m3 : ((G.length : Int) == (N1 : Int)) = false := by simp; omega
            go_upto_region 9 with fail
            go_quiet (fail)
            go_wp2
            go_ret2
            exact ⟨A, c', false, by unfold gbOk; rw [HGG.out]; exact ⟨fun h => (by cases h), fun h => h.elim (fun h => by omega) fun h => absurd h.1 hgeq⟩, by rw [HGG.out]; rfl, by rw [HGG.out]; exact HIO.out.below ((Below.refl _ _).drewN _), HB.out.drewN _⟩
    · have hG : gbGo L f i = gbL L f N1 := by
        obtain rfl : i = L.length := by omega
        exact gbGo_end hgl
      clear hif
      rw [hG] at HIO hgl hgi
      have HGI := Lib.hid hgi
      rw [hG]
      clear hG hgi
      obtain ⟨G, hGG⟩ : ∃ G, gbL L f N1 = G := ⟨_, rfl⟩
      have HGG := Lib.hid hGG
      rw [hGG] at HIO hgl
      rw [hGG]
      clear hGG
      rcases Nat.eq_zero_or_pos N1 with rfl | hpos
      · go_upto_region 9 with fail
        go_quiet (fail)
        go_wp2
        go_ret2
        exact ⟨A, c', true, by simp [gbOk], by rw [HGG.out]; rfl, by rw [HGG.out]; exact HIO.out.below ((Below.refl _ _).drewN _), HB.out.drewN _⟩
      · have m1 : ((N1 : Int) == 0) = false := by simp; omega
        have m2 : ((N1 : Int) = 0) = False := by simp; omega
        by_cases hgeq : G.length = N1
        · have m3 : ((G.length : Int) == (N1 : Int)) = true := by simp; omega
          obtain ⟨b0, o0, hA0, hb0, hc0⟩ := HIO.out.sl 0 (by omega)
          obtain ⟨x, hx⟩ : ∃ x, G.getD 0 0 = x := ⟨_, rfl⟩
          dsimp only at hc0
          rw [Nat.add_zero] at hc0
          have m5 : 0 < G.length := by omega
          rw [hx] at hc0
          have HX := Lib.hid hx
          subst hA0
          clear hx
          have m4 : ((x : Int) == (f : Int)) = decide (x = f) := by
            rw [Bool.eq_iff_iff]; simp only [beq_iff_eq, decide_eq_true_eq]; omega
          go_upto_region 9 with fail
          go_quiet (fail)
          go_wp2
          go_ret2
          exact ⟨_, c', decide (x = f), by unfold gbOk; rw [HGG.out, HX.out, decide_eq_true_eq]; exact ⟨fun h => .inr ⟨hgeq, h⟩, fun h => h.elim (fun h => by omega) fun h => h.2⟩, by rw [HGG.out, hgeq]; rfl, by rw [HGG.out]; exact HIO.out.below ((Below.refl _ _).drewN _), HB.out.drewN _⟩
        · have m3 : ((G.length : Int) == (N1 : Int)) = false := by simp; omega
          go_upto_region 9 with fail
          go_quiet (fail)
          go_wp2
          go_ret2
          exact ⟨A, c', false, by unfold gbOk; rw [HGG.out]; exact ⟨fun h => (by cases h), fun h => h.elim (fun h => by omega) fun h => absurd h.1 hgeq⟩, by rw [HGG.out]; rfl, by rw [HGG.out]; exact HIO.out.below ((Below.refl _ _).drewN _), HB.out.drewN _⟩
end Go.Proofs.YtgmmigbaaigldaaGreatDoor
