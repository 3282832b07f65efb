/-
  Trees: the program's walk: a directory visited.
-/
import Derived.Test.YtiefcgmghkkbmaaGreatDoorTreIt
import Derived.Deep.DeepCutAuto
namespace Go.Proofs.YtiefcgmghkkbmaaGreatDoor
open Go Go.ChangeShapes Go.WideShapes Go.ChangeAt Go.RowKit lib
set_option linter.unusedVariables false
set_option linter.unusedSimpArgs false
set_option maxRecDepth 100000
theorem tChn_end {n : Nat} {u : Nat → Nat → UInt8} {g : Nat} {path : ByteArray} {d h : Nat} {S : TS} : tChn n u (g + 1) path d h 0 S = S := by
  unfold tChn
  rw [if_pos rfl]
theorem tChn_stop {n : Nat} {u : Nat → Nat → UInt8} {g : Nat} {path : ByteArray} {d h b : Nat} {S : TS} (hb : b ≠ 0) (he : (tEnter n u S b (tEnt (u b) d)).2 = false) : tChn n u (g + 1) path d h b S = (tEnter n u S b (tEnt (u b) d)).1 := by
  rw [tChn, if_neg hb, if_neg (by rw [he]; simp)]
theorem tChn_dir {n : Nat} {u : Nat → Nat → UInt8} {g : Nat} {path : ByteArray} {d h b : Nat} {S : TS} (hb : b ≠ 0) (he : (tEnter n u S b (tEnt (u b) d)).2 = true) (h4 : u b 0 = 4) :
    tChn n u (g + 1) path d h b S = tChn n u g path d h (u b 2).toNat (tDir n u g (path ++ tnm (u b) ++ slashB) b 12 (tNote u (tEnter n u S b (tEnt (u b) d)).1 d h b path)) := by
  rw [tChn, if_neg hb, if_pos he, if_pos h4]
  rfl
theorem tChn_fil {n : Nat} {u : Nat → Nat → UInt8} {g : Nat} {path : ByteArray} {d h b : Nat} {S : TS} (hb : b ≠ 0) (he : (tEnter n u S b (tEnt (u b) d)).2 = true) (h4 : u b 0 ≠ 4) :
    tChn n u (g + 1) path d h b S = tChn n u g path d h (u b 2).toNat
      { (tFile n u 256 (tNote u (tEnter n u S b (tEnt (u b) d)).1 d h b path) b (u b 14).toNat 1 ⟨#[]⟩).1 with it := setLast (tNote u (tEnter n u S b (tEnt (u b) d)).1 d h b path).it (tFile n u 256 (tNote u (tEnter n u S b (tEnt (u b) d)).1 d h b path) b (u b 14).toNat 1 ⟨#[]⟩).2 } := by
  rw [tChn, if_neg hb, if_pos he, if_neg h4]
/-- the state behind the first chains of a directory -/
noncomputable def tPre (n : Nat) (u : Nat → Nat → UInt8) (g : Nat) (path : ByteArray) (d t : Nat) (S : TS) (h : Nat) : TS := (List.range h).foldl (fun T k => tChn n u g path d k (u d (t + k)).toNat T) S
theorem tPre_succ {n : Nat} {u : Nat → Nat → UInt8} {g : Nat} {path : ByteArray} {d t : Nat} {S : TS} {h : Nat} : tPre n u g path d t S (h + 1) = tChn n u g path d h (u d (t + h)).toNat (tPre n u g path d t S h) := by
  unfold tPre
  rw [List.range_succ, List.foldl_append]
  rfl
theorem tPre_le {n : Nat} {u : Nat → Nat → UInt8} {g : Nat} {path : ByteArray} {d t : Nat} {S : TS} (hd : S.sn d = true) : ∀ h, TLe n d S (tPre n u g path d t S h) ∧ (tPre n u g path d t S h).mu n ≤ S.mu n + h
  | 0 => ⟨TLe.refl _ _ _, Nat.le_refl _⟩
  | h + 1 => by
    obtain ⟨h1, h2⟩ := tPre_le (n := n) (u := u) (g := g) (path := path) (t := t) hd h
    rw [tPre_succ]
    obtain ⟨h3, h4⟩ := tChn_le (n := n) (u := u) g path d h (u d (t + h)).toNat _ (h1.sn d hd)
    exact ⟨h1.trans h3, by omega⟩
theorem tDbl_t {u : Nat → Nat → UInt8} {S : TS} {d h b : Nat} (p : tHash (tnm (u b)) ≠ h ∨ tTwice S.it d (tnm (u b))) : tDbl u S d h b = true := @decide_eq_true _ (_) p
theorem tDbl_f {u : Nat → Nat → UInt8} {S : TS} {d h b : Nat} (p : ¬ (tHash (tnm (u b)) ≠ h ∨ tTwice S.it d (tnm (u b)))) : tDbl u S d h b = false := @decide_eq_false _ (_) p
theorem tTwice_snoc {L : List TIt} {x : TIt} {d : Nat} {nm : ByteArray} : tTwice (L ++ [x]) d nm ↔ tTwice L d nm ∨ (x.dir = d ∧ x.nm = nm) := by
  constructor
  · rintro ⟨y, hy, e⟩
    rcases List.mem_append.1 hy with h | h
    · exact .inl ⟨y, h, e⟩
    · rw [List.mem_singleton] at h; subst h; exact .inr e
  · rintro (⟨y, hy, e⟩ | e)
    · exact ⟨y, List.mem_append_left _ hy, e⟩
    · exact ⟨x, List.mem_append_right _ (List.mem_singleton.2 rfl), e⟩
theorem tNote_sn {u : Nat → Nat → UInt8} {S : TS} {d h b : Nat} {path : ByteArray} : (tNote u S d h b path).sn = S.sn := by
  unfold tNote
  split <;> rfl
theorem tNote_it {u : Nat → Nat → UInt8} {S : TS} {d h b : Nat} {path : ByteArray} : (tNote u S d h b path).it = S.it ++ [⟨d, b, tnm (u b), path ++ tnm (u b), decide (u b 0 = 4), tDbl u S d h b, ⟨#[]⟩, false⟩] := rfl
theorem tTwice_last {L : List TIt} {o : Option ByteArray} {d : Nat} {nm : ByteArray} : tTwice (setLast L o) d nm ↔ tTwice L d nm := by
  constructor
  · rintro ⟨x, hx, e1, e2⟩
    obtain ⟨y, hy, e3, e4⟩ := setLast_mem.2 x hx
    exact ⟨y, hy, e3.trans e1, e4.trans e2⟩
  · rintro ⟨y, hy, e1, e2⟩
    obtain ⟨x, hx, e3, e4⟩ := (setLast_mem (o := o)).1 y hy
    exact ⟨x, hx, e3.trans e1, e4.trans e2⟩
/-- what the names' map holds -/
def nmQ (S : TS) (d : Nat) : ByteArray → Prop := fun x => tTwice S.it d x
def DirOut (q gp gr n B B0 m : Nat) (bl cp : Nat → Nat) (u : Nat → Nat → UInt8) (w : World) (R : TS) (e : Ending) (w' : World) : Prop :=
  e = .returned (.tuple #[]) ∧ WkW w' q gp gr n B B0 m bl cp u R ∧ Kp wkT m B w w'
def DirOk (g : Nat) : Prop := ∀ (w : World) (q gp gr n B B0 m d t : Nat) (bl cp : Nat → Nat) (u : Nat → Nat → UInt8) (S : TS) (path : ByteArray), WkW w q gp gr n B B0 m bl cp u S → B ≤ w.heap.size → n ≤ 128 → S.mu n ≤ 80000 → S.it.length + S.uns n ≤ 1000 → S.uns n < g → S.Inv → S.sn d = true → (∀ x, x ∈ S.it → x.dir ≠ d) → d < n →
  ((t = 4 ∧ u d 0 = 1) ∨ (t = 12 ∧ u d 0 = 4)) → path.size + 10 * S.uns n ≤ 2000 →
  Calls Tryz.prog 92 #[.pointer (some ⟨q, 0, none⟩), .int .i64 d, .string path] w (DirOut q gp gr n B B0 m bl cp u w (tDir n u g path d t S))
set_option maxHeartbeats 16000000 in
theorem dir_any (g : Nat) (ih : ∀ g', g' < g → DirOk g') : DirOk g := by
  intro w q gp gr n B B0 m d t bl cp u S path h hB hn hmu hil hfu hinv hsd hnod hdn ht hps
  have IH := Lib.hid ih
  have hdir : tDir n u g path d t S = tPre n u g path d t S 8 := rfl
  rw [hdir]
  have HPL := Lib.hid (tPre_le (n := n) (u := u) (g := g) (path := path) (t := t) hsd)
  have hb0 := (Below.refl w.heap.size w).alloc (Nat.le_refl _) (.cells #[.int .i64 (d : Int)] 2)
  have hb1 := hb0.alloc (by rw [World.size_alloc]; omega) (.map #[] 0)
  have hbm := (Below.refl (w.alloc (.cells #[.int .i64 (d : Int)] 2)).heap.size (w.alloc (.cells #[.int .i64 (d : Int)] 2))).alloc (Nat.le_refl _) (.map #[] 0)
  have HK1 := Lib.hid (Kp.ofBelow (T := wkT) (m := m) (B := B) hb1)
  have HW1 := Lib.hid (h.below hb1)
  have HBX := Lib.hid ((Row.new w 2 #[.int .i64 (d : Int)]).below hbm (by rw [World.size_alloc]; omega))
  have HNM := Lib.hid (NSet.made (P := Tryz.prog) (k := 9) (e := 4) (w.alloc (.cells #[.int .i64 (d : Int)] 2)))
  have hml : m < w.heap.size := by obtain ⟨_, ⟨cnt, _, h5⟩, _⟩ := h; exact h5.lt
  have hs1 : (w.alloc (.cells #[.int .i64 (d : Int)] 2)).heap.size = w.heap.size + 1 := World.size_alloc _ _
  have HNT := Lib.hid (show ∀ x, ¬ tTwice S.it d x from fun x ⟨y, hy, e, _⟩ => hnod y hy e)
  have HINV := Lib.hid hinv
  have HT := Lib.hid ht
  clear h hb0 hb1 hbm hdir hinv hnod ht ih
  have hmm := @run_makeMap Tryz.prog
  go_enter Tryz.func92, Tryz.ntmps92
  go_upto_region 2 with fail
  obtain ⟨bx, hbx⟩ : ∃ bx, w.heap.size = bx := ⟨_, rfl⟩
  rw [hs1] at HNM
  rw [hbx] at HNM HBX hml
  rw [hbx]
  have HBXE := Lib.hid hbx
  clear hbx hs1
  generalize (w.alloc (.cells #[.int .i64 (d : Int)] 2)).alloc (.map #[] 0) = W1 at *
  obtain ⟨k0, _⟩ := HW1.out.ptr
  obtain ⟨cap, k2⟩ := HW1.out.tree.ptr
  have k3 := HW1.out.tree.blk hdn
  have kb : W1.cell? ⟨bx, 0, none⟩ = some (.int .i64 (d : Int)) := HBX.out.cell 0
  have hdi : (d : Int) < (n : Int) := by omega
  obtain ⟨gd, hgd⟩ : ∃ g, bl d = g := ⟨_, rfl⟩
  obtain ⟨cd, hcd⟩ : ∃ c, cp d = c := ⟨_, rfl⟩
  have HGD := Lib.hid hgd
  have HRD := Lib.hid (HW1.out.tree.row hdn)
  have hcd32 := HW1.out.tree.2 d hdn
  rw [hgd, hcd] at k3
  rw [hgd] at HRD
  rw [hcd] at hcd32
  have HTB := Lib.hid (fun (kk : Nat) => (show Calls Tryz.prog 56 #[.slice (some ⟨gd, 0, none⟩) 32 cd] (W1.drewN kk) fun e w' => e = .returned (.slice (some ⟨gd, t, none⟩) 8 (cd - t)) ∧ w' = W1.drewN kk from by
    rcases HT.out with ⟨rfl, h1⟩ | ⟨rfl, h4⟩
    · exact (tableRoot_any (n := 0) (HRD.out.drewN kk) hcd32 h1).mono fun e w' h => ⟨h.1, h.2.symm⟩
    · exact (tableDir_any (n := 0) (HRD.out.drewN kk) hcd32 h4).mono fun e w' h => ⟨h.1, h.2.symm⟩))
  clear hgd hcd
  go_quiet ((go_at_call 56; exact Calls.quiet_of_same (HTB.out _)))
  have HW2 := Lib.hid (HW1.out.drewN nq)
  have HK2 := Lib.hid (HK1.out.drewN nq)
  have HBX2 : Hid (Row (W1.drewN nq) bx 2 #[.int .i64 (d : Int)]) := Lib.hid (HBX.out.drewN nq)
  have HNM2 : Hid (NSet Tryz.prog 9 4 (W1.drewN nq) (bx + 1) 0 (nmQ S d)) := Lib.hid (HNM.out.congr fun x => ⟨fun q => q.elim, fun q => absurd q (HNT.out x)⟩)
  clear k0 k2 k3 kb HW1 HK1 HBX HNM HTB HRD hmm
  generalize W1.drewN nq = W2 at *
  have htl : t ≤ 12 := by rcases HT.out with ⟨h, _⟩ | ⟨h, _⟩ <;> omega
  have hun := unsF_le S.sn n
  go_wp2_with fail
  go_loopw [26] (fun s26 wr => ∃ (h cnt : Nat), h ≤ 8 ∧ s26 = .int .i64 h ∧ WkW wr q gp gr n B B0 m bl cp u (tPre n u g path d t S h) ∧ cnt + (tPre n u g path d t S h).uns n ≤ 1000 ∧ NSet Tryz.prog 9 4 wr (bx + 1) cnt (nmQ (tPre n u g path d t S h) d) ∧ Row wr bx 2 #[.int .i64 (d : Int)] ∧ Kp wkT m B w wr) (fun s _ => 8 - (intOf s).toNat)
  case atStart => exact ⟨0, 0, by omega, rfl, HW2.out, by show 0 + S.uns n ≤ 1000; unfold TS.uns; omega, HNM2.out, HBX2.out, HK2.out⟩
  case round =>
    obtain ⟨h, cnt, hh, rfl, hw, hcnt, hnm, hbx, hkp⟩ := hrel
    obtain ⟨hle, hmu2⟩ := HPL.out h
    obtain ⟨Y, hY⟩ : ∃ Y, tPre n u g path d t S (h + 1) = Y := ⟨_, rfl⟩
    have hY2 := hY
    rw [tPre_succ] at hY2
    obtain ⟨SH, hSH⟩ : ∃ SH, tPre n u g path d t S h = SH := ⟨_, rfl⟩
    rw [hSH] at hw hcnt hnm hle hmu2 hY2
    have HSH := Lib.hid hSH
    have HY := Lib.hid hY
    have HY2 := Lib.hid hY2
    have HLE := Lib.hid hle
    have HW := Lib.hid hw
    have HNS := Lib.hid hnm
    have HBXR := Lib.hid hbx
    have HKP := Lib.hid hkp
    have hBr : B ≤ wr.heap.size := by have := hkp.size; omega
    have huh := hle.uns
    clear hw hnm hbx hkp hY hY2 hSH hle
    by_cases hlt : h < 8
    · have hli : (h : Int) < 8 := by omega
      have HRD := Lib.hid (show BRow wr 5 gd 32 (u d) from by have := HW.out.tree.row hdn; rwa [HGD.out] at this)
      have cth := HRD.out.cell (i := t + h) (by omega)
      obtain ⟨x, hx⟩ : ∃ x, (u d (t + h)).toNat = x := ⟨_, rfl⟩
      have hx2 : x < 256 := by rw [← hx]; exact UInt8.toNat_lt _
      rw [hx] at cth HY2
      clear hx
      go_wp2_with fail
      go_loopg [9] 129 (fun g' s9 wy => ∃ (b G cn : Nat) (S' : TS), S'.uns n + 1 ≤ g' ∧ s9 = .int .i64 b ∧ b < 256 ∧ tChn n u G path d h b S' = Y ∧ S'.uns n < G ∧ G ≤ g ∧ TLe n d S S' ∧ S'.mu n ≤ S.mu n + h ∧ WkW wy q gp gr n B B0 m bl cp u S' ∧ cn + S'.uns n ≤ 1000 ∧ NSet Tryz.prog 9 4 wy (bx + 1) cn (nmQ S' d) ∧ Row wy bx 2 #[.int .i64 (d : Int)] ∧ Kp wkT m B w wy)
      case atStart => exact ⟨x, g, cnt, SH, by have := unsF_le SH.sn n; show unsF SH.sn n + 1 ≤ 129; omega, rfl, hx2, HY2.out, by omega, Nat.le_refl _, HLE.out, hmu2, HW.out, hcnt, HNS.out, HBXR.out, HKP.out⟩
      case round =>
        clear HY2 HLE HW HNS HBXR HKP HRD hmu2 hcnt huh hBr cth
        obtain ⟨b, G, cn, S', hg', rfl, hb256, hch, hfu2, hGg, hle, hmu2, hw, hcn, hnm, hbx, hkp⟩ := hrel
        have HCH := Lib.hid hch
        have HLE := Lib.hid hle
        have HW := Lib.hid hw
        have HNS := Lib.hid hnm
        have HBXR := Lib.hid hbx
        have HKP := Lib.hid hkp
        have hBr : B ≤ wr.heap.size := by have := hkp.size; omega
        have huh := hle.uns
        have hsd2 := hle.sn d hsd
        have HIN := Lib.hid (hle.inv HINV.out)
        have hpl : S'.pr.length ≤ 90000 := by have : S'.mu n = S'.pr.length + 20 * S'.uns n := rfl; omega
        obtain ⟨G1, rfl⟩ : ∃ G1, G = G1 + 1 := ⟨G - 1, by omega⟩
        clear hch hw hnm hbx hkp hle
        by_cases h0 : b = 0
        · subst h0
          have HYS := Lib.hid (show tPre n u g path d t S (h + 1) = S' from HY.out.trans (HCH.out.symm.trans tChn_end))
          go_wp2_with fail
          go_roundw
          case rel => exact ⟨h + 1, cn, by omega, by go_num, by rw [HYS.out]; exact HW.out, by rw [HYS.out]; exact hcn, by rw [HYS.out]; exact HNS.out, HBXR.out, HKP.out⟩
          case measure => simp [intOf]; omega
        · have tb : ((b : Int) != 0) = true := by simp; omega
          have HEN := Lib.hid (enterDir_any HW.out hBr hn (by omega) (b := b) (by omega) (d := d) (bx := bx) (by omega) (HBXR.out.cell 0))
          have HEOK := Lib.hid (tEnter_ok (n := n) (u := u) (S := S') (b := b) (ok := tEnt (u b) d))
          have HIT := Lib.hid (tEnter_it (n := n) (u := u) S' b (tEnt (u b) d))
          have HTD := Lib.hid (tChn_dir (n := n) (u := u) (g := G1) (path := path) (d := d) (h := h) (S := S') h0)
          have HTF := Lib.hid (tChn_fil (n := n) (u := u) (g := G1) (path := path) (d := d) (h := h) (S := S') h0)
          have HTS := Lib.hid (tChn_stop (n := n) (u := u) (g := G1) (path := path) (d := d) (h := h) (S := S') h0)
          have HEU := Lib.hid (tEnter_le (n := n) (u := u) S' b d (tEnt (u b) d)).uns
          generalize tEnter n u S' b (tEnt (u b) d) = E at HEN HEOK HIT HTD HTF HTS HEU
          obtain ⟨S1, ev⟩ := E
          cases ev with
          | false =>
            have HYS := Lib.hid (show tPre n u g path d t S (h + 1) = S1 from HY.out.trans (HCH.out.symm.trans (HTS.out rfl)))
            have HNQ := Lib.hid (show nmQ S1 d = nmQ S' d from by unfold nmQ; rw [show S1.it = S'.it from HIT.out])
            have hus1 : S1.uns n ≤ S'.uns n := HEU.out
            go_wp2_with (go_at_call 114; refine HEN.out.mono ?_; rintro e w5 ⟨rfl, hw5, hk5, _, hc5⟩)
            go_roundw
            case rel => exact ⟨h + 1, cn, by omega, by go_num, by rw [HYS.out]; exact hw5, by rw [HYS.out]; omega, by rw [HYS.out, HNQ.out]; exact HNS.out.kp hk5 (by omega), HBXR.out.kp hk5 (by decide), HKP.out.trans hk5⟩
            case measure => simp [intOf]; omega
          | true =>
            obtain ⟨hbn, hsn, hok, hS1⟩ := HEOK.out rfl
            dsimp only at hS1 HEN HIT
            have hun1 : S1.uns n + 1 = S'.uns n := by rw [hS1]; exact uns_see hbn hsn
            have hmu1 : S1.mu n + 20 = S'.mu n := by rw [hS1]; exact mu_see hbn hsn
            have hbi : (b : Int) < (n : Int) := by omega
            have HS1 := Lib.hid hS1
            have HSN := Lib.hid hsn
            have HOK := Lib.hid hok
            clear hS1 hsn hok
            go_upto_region 9 with (go_at_call 114; refine HEN.out.mono ?_; rintro e w5 ⟨rfl, hw5, hk5, _, hc5⟩; have k0 := hw5.ptr.1; obtain ⟨cap5, k2⟩ := hw5.tree.ptr; have k3 := hw5.tree.blk hbn)
            have HRB := Lib.hid (hw5.tree.row hbn)
            have hcb32 := hw5.tree.2 b hbn
            obtain ⟨gb, hgb⟩ : ∃ g, bl b = g := ⟨_, rfl⟩
            obtain ⟨cb, hcb⟩ : ∃ c, cp b = c := ⟨_, rfl⟩
            rw [hgb] at HRB k3
            rw [hcb] at k3 hcb32
            rw [hgb, hcb]
            have HGB := Lib.hid hgb
            have HCB := Lib.hid hcb
            have c0 := HRB.out.cell (i := 0) (by omega)
            obtain ⟨x0, hx0⟩ : ∃ x, (u b 0).toNat = x := ⟨_, rfl⟩
            have b0 : x0 < 256 := by rw [← hx0]; exact UInt8.toNat_lt _
            rw [hx0] at c0
            have HX0 := Lib.hid hx0
            obtain ⟨X, hX⟩ : ∃ X, tnm (u b) = X := ⟨_, rfl⟩
            have hX8 : X.size ≤ 8 := by rw [← hX]; exact HOK.out.2.1.hi
            have HX := Lib.hid hX
            have HNO := Lib.hid (fun (W : World) (hW : BRow W 5 gb 32 (u b)) => show Calls Tryz.prog 67 #[.slice (some ⟨gb, 0, none⟩) 32 cb] W fun e w' => e = .returned (.string X) ∧ W = w' by rw [← hX]; exact nameOf_any hW hcb32)
            have HW5 := Lib.hid hw5
            have HK5 := Lib.hid (HKP.out.trans hk5)
            have HBX5 := Lib.hid (HBXR.out.kp hk5 (by decide))
            have HNS5 := Lib.hid (HNS.out.kp hk5 (by omega))
            have kb := HBX5.out.cell 0
            have hB5 : B ≤ w5.heap.size := by have := HK5.out.size; omega
            clear hw5 hk5 hgb hcb hx0 hX hc5 k0 k2 k3
            have hba := (Below.refl w5.heap.size w5).alloc (Nat.le_refl _) (.cells #[.int .i64 0, .int .i64 0, .string ⟨#[]⟩, .string ⟨#[]⟩, .bool false, .bool false, .string ⟨#[]⟩, .bool false] 76)
            have ca0 := (hba.cell (p := ⟨gb, 0, none⟩) HRB.out.lt).trans c0
            have ca1 := (hba.cell (p := ⟨bx, 0, none⟩) HBX5.out.lt).trans kb
            clear hba
            have hfol : ((x0 : Int) == 4) = decide (u b 0 = 4) := by
              have e := u8_is 4 HX0.out
              by_cases h : x0 = 4
              · rw [decide_eq_true (e.2 h)]; simp [h]
              · rw [decide_eq_false (fun q => h (e.1 q))]; simp; omega
            obtain ⟨fol, hfl⟩ : ∃ f, decide (u b 0 = 4) = f := ⟨_, rfl⟩
            rw [hfl] at hfol
            have HFL := Lib.hid hfl
            clear hfl
            go_cut [11] (fun s11 wx => s11 = .pointer (some ⟨w5.heap.size, 0, none⟩) ∧ Rw wx w5.heap.size 76 #[.int .i64 (d : Int), .int .i64 (b : Int), .string X, .string ⟨#[]⟩, .bool fol, .bool false, .string ⟨#[]⟩, .bool false] ∧ Below w5.heap.size w5 wx)
            case first =>
              have nn0 := World.new_ne w5 _ c0
              have nn1 := World.new_ne w5 _ kb
              go_region_held3 (fun w' => w'.cell? ⟨gb, 0, none⟩ = some (.int .u8 (x0 : Int)) ∧ w'.cell? ⟨bx, 0, none⟩ = some (.int .i64 (d : Int))) (first | exact ⟨c0, kb⟩ | exact ⟨ca0, ca1⟩ | exact c0 | exact kb | exact ca0 | exact ca1 | go_keep) ((go_at_call 67; refine (HNO.out _ (by first | exact HRB.out.drew | exact (HRB.out.alloc _).drew | exact HRB.out | exact (HRB.out.alloc _))).mono ?_; rintro e w6 ⟨rfl, rfl⟩))
              all_goals
                go_wp2_with fail
                go_meet
                exact ⟨rfl, (Rw.new w5 _ _).drew, ((Below.refl _ _).alloc (Nat.le_refl _) _).drew⟩
            case rest =>
              obtain ⟨rfl, hri, hbi⟩ := hcut
              obtain ⟨bt, hbt⟩ : ∃ b, w5.heap.size = b := ⟨_, rfl⟩
              rw [hbt] at hri hbi ⊢
              have HBT := Lib.hid hbt
              have hB7 := hbi.setCell (p := ⟨bt, 3, none⟩) (Nat.le_refl _) (.string (path ++ X))
              have HB7 := Lib.hid hB7
              have HT7 := Lib.hid (hri.set 3 (.string (path ++ X)))
              have i2 := hri.cell 2
              have i3 := hri.cell 3
              have j3 := hri.frozen 3
              have a1 : ∀ W : World, (Op.stringOp .add path X).run Tryz.prog W = .ok (.string (path ++ X)) W := fun W => run_string_add_sum _ _ _ (by omega)
              clear hri hbi hbt hB7 kb ca0 ca1 c0
              go_upto_region 11 with fail
              generalize wc.setCell ⟨bt, 3, none⟩ (.string (path ++ X)) = W7 at *
              clear i2 i3 j3
              change Hid (Rw W7 bt 76 #[.int .i64 (d : Int), .int .i64 (b : Int), .string X, .string (path ++ X), .bool fol, .bool false, .string ⟨#[]⟩, .bool false]) at HT7
              have HNS7 := Lib.hid (HNS5.out.below (by rw [HBT.out]; exact HB7.out))
              obtain ⟨dbl, hdb⟩ : ∃ v, tDbl u S1 d h b = v := ⟨_, rfl⟩
              have HDB := Lib.hid hdb
              clear hdb
              go_cut [] (fun wx => wx = W7.setCell ⟨bt, 5, none⟩ (.bool dbl))
              case first =>
                have i2 := HT7.out.cell 2
                have i5 := HT7.out.cell 5
                have j5 := HT7.out.frozen 5
                have HHS := Lib.hid (fun W => hashOf_any X (by omega) W)
                obtain ⟨hv, hhv⟩ : ∃ v, tHash X = v := ⟨_, rfl⟩
                rw [hhv] at HHS
                have hhv8 : hv < 8 := by rw [← hhv]; unfold tHash; omega
                have HHV := Lib.hid hhv
                clear hhv
                by_cases hh : hv = h
                · have t1 : ((hv : Int) != (h : Int)) = false := by simp; omega
                  obtain ⟨v, hlk, hvq⟩ := HNS7.out.look (t := 145) Tryz.underlying9 Tryz.underlying145 Tryz.underlying4 (by rfl) X (by simp only [maxLen]; omega)
                  obtain rfl : v = dbl := by
                    rw [← HDB.out]
                    cases v with
                    | true => exact (tDbl_t (.inr (by rw [HX.out, show S1.it = S'.it from HIT.out]; exact hvq.1 rfl))).symm
                    | false => exact (tDbl_f (fun q => q.elim (fun q => q (by rw [HX.out, HHV.out]; exact hh)) (fun q => by
                        rw [HX.out, show S1.it = S'.it from HIT.out] at q
                        have := hvq.2 q; cases this))).symm
                  have HVQ := Lib.hid hvq
                  clear hvq
                  go_wp2_with (go_at_call 57; refine (HHS.out _).mono ?_; rintro e w' ⟨rfl, rfl⟩)
                  go_meet
                  rfl
                · have t1 : ((hv : Int) != (h : Int)) = true := by simp; omega
                  obtain rfl : true = dbl := by
                    rw [← HDB.out]
                    exact (tDbl_t (.inl (by rw [HX.out, HHV.out]; exact hh))).symm
                  go_wp2_with (go_at_call 57; refine (HHS.out _).mono ?_; rintro e w' ⟨rfl, rfl⟩)
                  go_meet
                  rfl
              case rest =>
                have hB8 : Below bt w5 wc := by rw [hcut]; exact HB7.out.setCell (p := ⟨bt, 5, none⟩) (Nat.le_refl _) (.bool dbl)
                have hT8 : Rw wc bt 76 #[.int .i64 (d : Int), .int .i64 (b : Int), .string X, .string (path ++ X), .bool fol, .bool dbl, .string ⟨#[]⟩, .bool false] := by rw [hcut]; exact HT7.out.set 5 (.bool dbl)
                have HB8 := Lib.hid hB8
                have HNS8 := Lib.hid (HNS5.out.below (by rw [HBT.out]; exact hB8))
                obtain ⟨w9, hrun9, hns9, hg9⟩ := HNS8.out.store (t := 145) Tryz.underlying9 Tryz.underlying145 Tryz.underlying4 (by simp only [maxLen]; omega) X (by simp only [maxLen]; omega)
                have hbxt : bx + 1 < bt := by rw [← HBT.out]; exact HNS5.out.lt
                have i2 := hT8.cell 2
                have HT9 := Lib.hid (show Rw w9 bt 76 #[.int .i64 (d : Int), .int .i64 (b : Int), .string X, .string (path ++ X), .bool fol, .bool dbl, .string ⟨#[]⟩, .bool false] from (hg9.block bt hT8.lt (fun e => by injection e; omega)).trans hT8)
                have hk9 : Kp [] (bx + 1) 0 wc w9 := by obtain ⟨D, ho, _⟩ := HNS8.out; exact Kp.map ho (Nat.zero_le _) hg9
                have HW8 := Lib.hid (HW5.out.below (by rw [HBT.out]; exact hB8))
                have HW9 := Lib.hid (HW8.out.kp0 hk9 (by omega))
                have HBX9 := Lib.hid ((HBX5.out.below (by rw [HBT.out]; exact hB8) HBX5.out.lt).kp hk9 (by simp))
                have HRB9 := Lib.hid ((HRB.out.below (by rw [HBT.out]; exact hB8) HRB.out.lt).kp hk9 (by simp))
                have HK9 := Lib.hid ((HK5.out.trans (Kp.ofBelow (by rw [HBT.out]; exact hB8))).thenBelow (below_grown hg9 (fun k e => by injection e with e; have := HBXE.out; omega) (by have := hk9.size; have := hB8.size; have := HBXE.out; have := HBX5.out.lt; omega)) (Nat.le_refl _))
                have HNS9 := Lib.hid hns9
                have hc3 : w9.cell? ⟨q, 3, none⟩ = w5.cell? ⟨q, 3, none⟩ := by
                  obtain ⟨⟨A1, c1, A2, c2, r1, _⟩, _⟩ := HW5.out
                  obtain ⟨fr, r2, _⟩ := r1.below (by rw [HBT.out]; exact hB8) r1.lt
                  exact (World.cell?_of_block (a := ⟨q, 3, none⟩) (hk9.block q (Nat.lt_of_lt_of_le r1.lt hB8.size |> fun h => h) (.inr (.inl ⟨_, _, fr, r2, by simp⟩)))).trans (hB8.cell (p := ⟨q, 3, none⟩) (by rw [← HBT.out]; exact r1.lt))
                have HC9 := Lib.hid hc3
                have hB9 : B ≤ w9.heap.size := by have := hk9.size; have := hB8.size; omega
                clear hcut hB8 hT8 hns9 hg9 hk9 hc3 HNS7 HT7 HB7
                obtain ⟨S2, hS2⟩ : ∃ T, (if dbl = true then S1.prob 4 b else S1) = T := ⟨_, rfl⟩
                have HS2 := Lib.hid hS2
                clear hS2
                have hm12 : S1.mu n ≤ 80000 := by omega
                have e5 := HT9.out.cell 5
                go_upto_if 80 with fail
                go_cut [] (fun wx => WkW wx q gp gr n B B0 m bl cp u S2 ∧ Rw wx bt 76 #[.int .i64 (d : Int), .int .i64 (b : Int), .string X, .string (path ++ X), .bool fol, .bool dbl, .string ⟨#[]⟩, .bool false] ∧ Row wx bx 2 #[.int .i64 (d : Int)] ∧ BRow wx 5 gb 32 (u b) ∧ NSet Tryz.prog 9 4 wx (bx + 1) (cn + 1) (fun y => nmQ S' d y ∨ y = X) ∧ Kp wkT m B w wx ∧ wx.cell? ⟨q, 3, none⟩ = w5.cell? ⟨q, 3, none⟩)
                case first =>
                  cases dbl with
                  | true =>
                    go_wp2_with (go_at_call 91; refine (problem_any HW9.out hB9 (by have : S1.mu n = S1.pr.length + 20 * S1.uns n := rfl; omega) (k := 4) (b := b) (by omega) (by omega)).mono ?_; rintro e w10 ⟨rfl, hw10, hk10, hc10, hp10⟩)
                    go_meet
                    exact ⟨by rw [← HS2.out]; exact hw10, rwKp HT9.out hp10 (by decide), HBX9.out.kp hk10 (by decide), HRB9.out.kp hk10 (by decide), HNS9.out.kp hk10 (by omega), HK9.out.trans hk10, hc10.trans HC9.out⟩
                  | false =>
                    go_wp2_with fail
                    go_meet
                    exact ⟨by rw [← HS2.out]; exact HW9.out, HT9.out, HBX9.out, HRB9.out, HNS9.out, HK9.out, HC9.out⟩
                case rest =>
                  obtain ⟨hw10, hT10, hbx10, hrb10, hns10, hk10, hc10⟩ := hcut
                  have hit2 : S2.it = S'.it := by rw [← HS2.out]; split <;> exact HIT.out
                  have hHN : tNote u S1 d h b path = { S2 with it := S2.it ++ [⟨d, b, X, path ++ X, fol, dbl, ⟨#[]⟩, false⟩] } := by
                    rw [← HS2.out, ← HDB.out, ← HX.out, ← HFL.out]
                    unfold tNote
                    split <;> rfl
                  have HHN := Lib.hid hHN
                  obtain ⟨A2, c2, hA2, hlen2⟩ : ∃ A2 c2, wc.cell? ⟨q, 3, none⟩ = some (.slice A2 S2.it.length c2) ∧ ∀ j, (Value.slice A2 S2.it.length c2).ownBlock = some j → j < bt := by
                    obtain ⟨⟨A1, c1, A2, c2, r1, _, r3⟩, _⟩ := HW5.out
                    have e := r1.cell 3
                    refine ⟨A2, c2, by rw [hc10, e, hit2, show S'.it = S1.it from HIT.out.symm]; rfl, fun j hj => ?_⟩
                    rw [← HBT.out]
                    rw [hit2, show S'.it = S1.it from HIT.out.symm] at hj
                    exact (r3.lt j hj).2
                  obtain ⟨L2, hL2⟩ : ∃ L, S2.it.length = L := ⟨_, rfl⟩
                  rw [hL2] at hA2 hlen2
                  have hLn : L2 ≤ 1000 := by
                    have e1 := HLE.out.itl
                    rw [← hL2, hit2]
                    omega
                  have HLL := Lib.hid (show S'.it.length = L2 from by rw [← hL2, hit2])
                  have hqb : q < bt := by rw [← HBT.out]; exact (RowsLt.of HW5.out).1
                  obtain ⟨j0, hj0, hj1, hj2, hj3⟩ := info_parts infoTI
                  have J0 := Lib.hid hj0
                  have J1 := Lib.hid hj1
                  have J2 := Lib.hid hj2
                  have J3 := Lib.hid hj3
                  have HOI := Lib.hid (show wc.ownsRow B 76 8 (.slice A2 L2 c2) L2 (S2.it.flatMap encTI) from by
                    obtain ⟨⟨A1', c1', A2', c2', r1, _, r3⟩, _⟩ := hw10
                    have e := r1.cell 3
                    rw [hA2] at e
                    simp only [List.getElem?_toArray, List.getElem?_cons_succ, List.getElem?_cons_zero, Option.some.injEq, Value.slice.injEq] at e
                    obtain ⟨rfl, e2, rfl⟩ := e
                    rw [← e2] at r3
                    exact r3)
                  have HQR := Lib.hid (show ∃ cs, Row wc q 72 cs ∧ cs.size = 4 ∧ cs[3]? = some (.slice A2 L2 c2) from by
                    obtain ⟨⟨A1', c1', A2', c2', r1, _, r3⟩, _⟩ := hw10
                    exact ⟨_, r1, rfl, (r1.cell 3).symm.trans hA2⟩)
                  have HADD := Lib.hid (fun (W w3 : World) (gg cap : Nat) (hb : Below wc.heap.size wc W) (ho : w3.ownsRow B 76 8 (.slice (some ⟨gg, 0, none⟩) (L2 + 1) cap) (L2 + 1) (S2.it.flatMap encTI ++ encTI ⟨d, b, X, path ++ X, fol, dbl, ⟨#[]⟩, false⟩)) (hg : W.grownBy w3 (Value.slice A2 L2 c2).ownBlock) =>
                    show WkW (w3.setCell ⟨q, 3, none⟩ (.slice (some ⟨gg, 0, none⟩) (L2 + 1) cap)) q gp gr n B B0 m bl cp u (tNote u S1 d h b path) ∧ Kp wkT m B wc (w3.setCell ⟨q, 3, none⟩ (.slice (some ⟨gg, 0, none⟩) (L2 + 1) cap)) from by
                      have hq := (RowsLt.of hw10).1
                      subst hL2
                      have := (hw10.below hb).addI ((hb.cell (p := ⟨q, 3, none⟩) hq).trans hA2) hg ho
                      rw [HHN.out]
                      exact ⟨this.1, (Kp.ofBelow hb).trans this.2⟩)
                  have HT10 := Lib.hid hT10
                  have HBX10 := Lib.hid hbx10
                  have HRB10 := Lib.hid hrb10
                  have HNS10 := Lib.hid hns10
                  have HK10 := Lib.hid hk10
                  have HLB := Lib.hid hlen2
                  have hB10 : B ≤ wc.heap.size := by have := hk10.size; omega
                  have v0 := hT10.cell 0
                  have v1 := hT10.cell 1
                  have v2 := hT10.cell 2
                  have v3 := hT10.cell 3
                  have v4 := hT10.cell 4
                  have v5 := hT10.cell 5
                  have v6 := hT10.cell 6
                  have v7 := hT10.cell 7
                  have hL2i : (L2 : Int) ≤ 1000 := by omega
                  clear hw10 hT10 hbx10 hrb10 hns10 hk10 hc10 hHN hL2 hit2 hj0 hj1 hj2 hj3 hlen2 e5 hrun9 i2
                  go_upto_region 16 with fail
                  go_cut [12] (fun s12 wx => s12 = .int .i64 L2 ∧ WkW wx q gp gr n B B0 m bl cp u (tNote u S1 d h b path) ∧ Rw wx bt 76 #[.int .i64 (d : Int), .int .i64 (b : Int), .string X, .string (path ++ X), .bool fol, .bool dbl, .string ⟨#[]⟩, .bool false] ∧ Kp wkT m B wc wx)
                  case first =>
                    obtain ⟨cs, hrq, hcs4, hcs3⟩ := HQR.out
                    have HRQ := Lib.hid hrq
                    have HCS := Lib.hid hcs4
                    have HC3S := Lib.hid hcs3
                    have hneq : some q ≠ (Value.slice A2 L2 c2).ownBlock := own_ne HOI.out hrq (by decide)
                    have HNEQ := Lib.hid hneq
                    have hba := (Below.refl wc.heap.size wc).alloc (Nat.le_refl _) (.cells #[.int .i64 (d : Int), .int .i64 (b : Int), .string X, .string (path ++ X), .bool fol, .bool dbl, .string ⟨#[]⟩, .bool false] 76)
                    have hqa := (hba.cell (p := ⟨q, 3, none⟩) hrq.lt).trans hA2
                    have HBA := Lib.hid hba.drew
                    clear hba
                    clear hrq hcs4 hneq hcs3
                    go_region_law (refine step_append_lies _ (by rfl) _ _ _ (by rfl) B 76 j0 _ 8 80 Tryz.underlying70 J0.out J1.out J2.out J3.out rfl (by omega) (.slice A2 L2 c2) L2 _ (by rfl) ((HOI.out.alloc _).drew) ⟨wc.heap.size, 0, none⟩ 1 1 [.int .i64 (d : Int), .int .i64 (b : Int), .string X, .string (path ++ X), .bool fol, .bool dbl, .string ⟨#[]⟩, .bool false] (by rfl) (by rfl) (newsT8 _ _ _ _ _ _ _ _ _ _) (by simp [Value.oneCell']) (by omega) (by simp only [maxLen]; omega) (by omega) (by simp; omega) (wc.heap.size + 1) (by simp) ?_; intro gg cap w3 ho3 hgrow hat hlt3; have hr3 := Row.grown ((HRQ.out.alloc _).drew) hgrow HNEQ.out; have hf3 := hr3.frozen (i := 3) (by rw [HCS.out]; omega); have hc3 := (hr3.cell 3).trans HC3S.out)
                    all_goals
                      go_wp2_with fail
                      go_meet
                      have hTa : Rw _ bt _ _ := (HT10.out.alloc (.cells #[.int .i64 (d : Int), .int .i64 (b : Int), .string X, .string (path ++ X), .bool fol, .bool dbl, .string ⟨#[]⟩, .bool false] 76)).drew
                      have hTg : Rw w3 bt 76 #[.int .i64 (d : Int), .int .i64 (b : Int), .string X, .string (path ++ X), .bool fol, .bool dbl, .string ⟨#[]⟩, .bool false] := (hgrow.block bt hTa.lt (fun e => by have := HLB.out bt e.symm; omega)).trans hTa
                      have hAD := HADD.out _ _ _ _ HBA.out ho3 hgrow
                      exact ⟨rfl, hAD.1, hTg.far (p := ⟨q, 3, none⟩) (by show bt ≠ q; omega) _, hAD.2⟩
                  case rest =>
                    obtain ⟨rfl, hw11, hT11, hk11⟩ := hcut
                    have HW11 := Lib.hid hw11
                    have HT11 := Lib.hid hT11
                    have HBX11 := Lib.hid (HBX10.out.kp hk11 (by decide))
                    have HRB11 := Lib.hid (HRB10.out.kp hk11 (by decide))
                    have HNS11 := Lib.hid (HNS10.out.kp hk11 (by omega))
                    have HK11 := Lib.hid (HK10.out.trans hk11)
                    have hB11 : B ≤ wc.heap.size := by have := hk11.size; omega
                    have hNu : (tNote u S1 d h b path).uns n = S1.uns n := by unfold TS.uns; rw [tNote_sn]
                    have hNm := tNote_mu (n := n) (u := u) S1 d h b path
                    have hNl := tNote_le (n := n) (u := u) (h := h) path HS1.out hbn HSN.out hsd2
                    have hNit : (tNote u S1 d h b path).it = S'.it ++ [⟨d, b, X, path ++ X, fol, dbl, ⟨#[]⟩, false⟩] := by
                      rw [tNote_it, HX.out, HFL.out, HDB.out, show S1.it = S'.it from HIT.out]
                    have hNb : (tNote u S1 d h b path).sn b = true := by rw [tNote_sn, HS1.out]; simp [TS.see]
                    have hNq : ∀ y, tTwice (tNote u S1 d h b path).it d y ↔ (nmQ S' d y ∨ y = X) := fun y => by
                      rw [hNit, tTwice_snoc]
                      show _ ↔ (tTwice S'.it d y ∨ y = X)
                      exact or_congr Iff.rfl ⟨fun e => e.2.symm, fun e => ⟨rfl, e.symm⟩⟩
                    have hdb : d ≠ b := fun e => by rw [e] at hsd2; rw [HSN.out] at hsd2; cases hsd2
                    have hNd : ∀ x, x ∈ (tNote u S1 d h b path).it → x.dir ≠ b := fun x hx e => by
                      rw [hNit] at hx
                      rcases List.mem_append.1 hx with h1 | h1
                      · have := HIN.out x h1; rw [e, HSN.out] at this; cases this
                      · rw [List.mem_singleton] at h1; subst h1; exact hdb e
                    have htd := HTD.out trivial
                    have htf := HTF.out trivial
                    try dsimp only at htd htf
                    obtain ⟨N, hN⟩ : ∃ N, tNote u S1 d h b path = N := ⟨_, rfl⟩
                    rw [hN] at HW11 hNu hNm hNl hNit hNb hNq hNd htd htf
                    have hNI := hNl.inv HIN.out
                    have hNlen : N.it.length = S'.it.length + 1 := by rw [hNit]; simp
                    have hitl := HLE.out.itl
                    have HNL := Lib.hid hNl
                    have HNB := Lib.hid hNb
                    have HNI := Lib.hid hNI
                    have HNIT := Lib.hid hNit
                    have HNQ := Lib.hid hNq
                    have HND := Lib.hid hNd
                    have HTD2 := Lib.hid htd
                    have HTF2 := Lib.hid htf
                    clear hw11 hT11 hk11 hNl hNit hNb hNq hNd htd htf hNI HADD HT10 HBX10 HRB10 HNS10 HK10 HLB HOI HQR v0 v1 v2 v3 v4 v5 v6 v7 hA2
                    by_cases h4 : u b 0 = 4
                    · have v4 := HT11.out.cell 4
                      have v3 := HT11.out.cell 3
                      obtain rfl : fol = true := by rw [← HFL.out]; exact decide_eq_true h4
                      have H4 := Lib.hid h4
                      clear h4
                      have a2 : ∀ W : World, (Op.stringOp .add (path ++ X) ⟨#[47]⟩).run Tryz.prog W = .ok (.string (path ++ X ++ ⟨#[47]⟩)) W := fun W => run_string_add_sum _ _ _ (by rw [ByteArray.size_append]; show _ + _ + 1 ≤ _; omega)
                      have HIH := Lib.hid (IH.out G1 (by omega) wc q gp gr n B B0 m b 12 bl cp u N (path ++ X ++ ⟨#[47]⟩) HW11.out hB11 hn (by omega) (by omega) (by omega) HNI.out HNB.out HND.out hbn (.inr ⟨rfl, H4.out⟩) (by rw [ByteArray.size_append, ByteArray.size_append]; show _ + _ + 1 + _ ≤ _; omega))
                      have HCE := Lib.hid (HTD2.out H4.out)
                      rw [HX.out, show slashB = ⟨#[47]⟩ from rfl] at HCE
                      have HRL := Lib.hid (show TLe n b N (tDir n u G1 (path ++ X ++ ⟨#[47]⟩) b 12 N) ∧ (tDir n u G1 (path ++ X ++ ⟨#[47]⟩) b 12 N).mu n ≤ N.mu n + 8 from tPre_le (n := n) (u := u) (g := G1) (path := path ++ X ++ (⟨#[47]⟩ : ByteArray)) (t := 12) HNB.out 8)
                      obtain ⟨R, hR⟩ : ∃ R, tDir n u G1 (path ++ X ++ ⟨#[47]⟩) b 12 N = R := ⟨_, rfl⟩
                      rw [hR] at HIH HCE HRL
                      clear hR
                      go_upto_region 20 with (go_at_call 92; refine HIH.out.mono ?_; rintro e w12 ⟨rfl, hw12, hk12⟩)
                      have HRB12 := Lib.hid (HRB11.out.kp hk12 (by decide))
                      have c2 := HRB12.out.cell (i := 2) (by omega)
                      obtain ⟨x2, hx2⟩ : ∃ x, (u b 2).toNat = x := ⟨_, rfl⟩
                      have b2 : x2 < 256 := by rw [← hx2]; exact UInt8.toNat_lt _
                      rw [hx2] at c2 HCE
                      have HW12 := Lib.hid hw12
                      have HK12 := Lib.hid (HK11.out.trans hk12)
                      have HBX12 := Lib.hid (HBX11.out.kp hk12 (by decide))
                      have HNS12 := Lib.hid ((HNS11.out.kp hk12 (by omega)).congr (Q' := nmQ R d) (fun y => (HNQ.out y).symm.trans (HRL.out.1.twice (HNL.out.sn d hsd2) hdb y).symm))
                      have hru := HRL.out.1.uns
                      have hrm := HRL.out.2
                      have HLR := Lib.hid (HLE.out.trans (HNL.out.inner HRL.out.1 HSN.out))
                      clear hw12 hk12 hx2 v3 v4
                      go_wp2_with fail
                      go_roundg (R.uns n + 1)
                      case measure => omega
                      case rel => exact ⟨x2, G1, cn + 1, R, Nat.le_refl _, rfl, b2, HCE.out.symm.trans HCH.out, by omega, by omega, HLR.out, by omega, HW12.out, by omega, HNS12.out, HBX12.out, HK12.out⟩
                    · obtain rfl : fol = false := by rw [← HFL.out]; exact decide_eq_false h4
                      have v4 := HT11.out.cell 4
                      have hce := HTF2.out h4
                      have hf0 := file_any (w := wc.drew) (HW11.out.below ((Below.refl _ _).drew)) hB11 hn (by omega) hbn
                      have hFit := tFile_it (n := n) (u := u) 256 N b (u b 14).toNat 1 ⟨#[]⟩
                      have hFle := tFile_le (n := n) (u := u) d 256 N b (u b 14).toNat 1 ⟨#[]⟩
                      have hFmu := tFile_mu (n := n) (u := u) 256 N b (u b 14).toNat 1 ⟨#[]⟩
                      obtain ⟨F, hF⟩ : ∃ F, tFile n u 256 N b (u b 14).toNat 1 ⟨#[]⟩ = F := ⟨_, rfl⟩
                      rw [hF] at hce hf0 hFit hFle hFmu
                      have HCE := Lib.hid hce
                      have HFI := Lib.hid hf0
                      have HFLE := Lib.hid hFle
                      have HSTL := Lib.hid (show setLast N.it F.2 = S'.it ++ [⟨d, b, X, path ++ X, false, dbl, datO F.2, F.2.isSome⟩] from by rw [HNIT.out, setLast_snoc])
                      have HFIT := Lib.hid (hFit.trans HNIT.out)
                      have HFN := Lib.hid hFit
                      obtain ⟨g2, c3, hc3, hgq⟩ : ∃ g2 c3, wc.cell? ⟨q, 3, none⟩ = some (.slice (some ⟨g2, 0, none⟩) (L2 + 1) c3) ∧ q ≠ g2 := by
                        obtain ⟨⟨A1', c1', A2', c2', r1, _, r3⟩, _⟩ := HW11.out
                        obtain ⟨g3, cap, e2, _, _⟩ := r3.form (by omega)
                        have e := r1.cell 3
                        rw [e2, hNlen, HLL.out] at e
                        exact ⟨g3, cap, e, fun e4 => own_ne r3 r1 (by decide) (by rw [e2, e4]; rfl)⟩
                      have HCQ := Lib.hid (fun (W : World) (i : Nat) (v : Value) => (World.cell?_of_block (a := ⟨q, 3, none⟩) (Below.heap_setCell W ⟨g2, i, none⟩ v q hgq) : (W.setCell ⟨g2, i, none⟩ v).cell? ⟨q, 3, none⟩ = W.cell? ⟨q, 3, none⟩))
                      have HSD := Lib.hid (fun (w12 : World) (hw12 : WkW w12 q gp gr n B B0 m bl cp u F.1) (d3 : w12.cell? ⟨q, 3, none⟩ = some (.slice (some ⟨g2, 0, none⟩) (L2 + 1) c3)) =>
                        show (∃ v, w12.cell? ⟨g2, L2 * 8 + 6, none⟩ = some v) ∧ (∃ v, w12.cell? ⟨g2, L2 * 8 + 7, none⟩ = some v) ∧ (∀ i, w12.frozen? ⟨g2, i, none⟩ = false) ∧ WkW ((w12.setCell ⟨g2, L2 * 8 + 6, none⟩ (.string (datO F.2))).setCell ⟨g2, L2 * 8 + 7, none⟩ (.bool F.2.isSome)) q gp gr n B B0 m bl cp u { F.1 with it := setLast N.it F.2 } ∧ Kp wkT m B w12 ((w12.setCell ⟨g2, L2 * 8 + 6, none⟩ (.string (datO F.2))).setCell ⟨g2, L2 * 8 + 7, none⟩ (.bool F.2.isSome)) from by
                          obtain ⟨g3, e, h1, h2, h3, h4, h5⟩ := hw12.setD HFIT.out d3 (datO F.2) F.2.isSome
                          injection e with e
                          injection e with e _
                          subst e
                          rw [HLL.out] at h1 h2 h4 h5
                          rw [HSTL.out]
                          exact ⟨h1, h2, h3, h4, h5⟩)
                      have hLi : (L2 : Int) < (L2 : Int) + 1 := by omega
                      have hL0 : (0 : Int) ≤ (L2 : Int) := by omega
                      have hLl : L2 < L2 + 1 := by omega
                      clear h4 hce hf0 hFit hFle hF
                      go_upto_region 19 with fail
                      go_cut [] (fun wx => WkW wx q gp gr n B B0 m bl cp u { F.1 with it := setLast N.it F.2 } ∧ Kp wkT m B wc wx)
                      case first =>
                        have nn0 := World.new_ne wc _ hc3
                        go_region_held3 (fun w' => w'.cell? ⟨q, 3, none⟩ = some (.slice (some ⟨g2, 0, none⟩) (L2 + 1) c3)) (first | exact hc3 | exact d3 | exact (HCQ.out _ _ _).trans d3 | exact (HCQ.out _ _ _).trans ((HCQ.out _ _ _).trans d3) | go_keep) ((go_at_call 117; refine HFI.out.mono ?_; rintro e w12 ⟨rfl, hw12, hk12, hc12⟩; have d3 : w12.cell? ⟨q, 3, none⟩ = some (.slice (some ⟨g2, 0, none⟩) (L2 + 1) c3) := hc12.trans hc3; obtain ⟨⟨y6, hy6⟩, ⟨y7, hy7⟩, hfz, hwf, hkf⟩ := HSD.out w12 hw12 d3; have z6 := hfz (L2 * 8 + 6); have z7 := hfz (L2 * 8 + 7); have HWF := Lib.hid hwf; have HKF := Lib.hid (hk12.trans hkf); clear hwf hkf hfz hw12 hk12))
                        all_goals
                          go_wp2_with fail
                          go_meet
                          exact ⟨HWF.out, (Kp.refl wkT m B wc).drew.trans HKF.out⟩
                      case rest =>
                        obtain ⟨hw13, hk13⟩ := hcut
                        have HRB13 := Lib.hid (HRB11.out.kp hk13 (by decide))
                        have c2 := HRB13.out.cell (i := 2) (by omega)
                        obtain ⟨x2, hx2⟩ : ∃ x, (u b 2).toNat = x := ⟨_, rfl⟩
                        have b2 : x2 < 256 := by rw [← hx2]; exact UInt8.toNat_lt _
                        rw [hx2] at c2 HCE
                        have HW13 := Lib.hid hw13
                        have HK13 := Lib.hid (HK11.out.trans hk13)
                        have HBX13 := Lib.hid (HBX11.out.kp hk13 (by decide))
                        obtain ⟨R, hR⟩ : ∃ R : TS, { F.1 with it := setLast N.it F.2 } = R := ⟨_, rfl⟩
                        have hRu : R.uns n = F.1.uns n := by rw [← hR]; rfl
                        have hRm : R.mu n = F.1.mu n := by rw [← hR]; rfl
                        have hfu := HFLE.out.uns
                        have HNS13 := Lib.hid ((HNS11.out.kp hk13 (by omega)).congr (Q' := nmQ R d) (fun y => (HNQ.out y).symm.trans (by rw [← hR]; exact tTwice_last.symm)))
                        have HLR := Lib.hid (HLE.out.trans ((HNL.out.trans HFLE.out).last (S2 := R) (o := F.2) (by rw [← hR, HFN.out]) (by rw [← hR])))
                        rw [hR] at HCE HW13
                        clear hw13 hk13 hx2 hR
                        go_wp2_with fail
                        go_roundg (R.uns n + 1)
                        case measure => omega
                        case rel => exact ⟨x2, G1, cn + 1, R, Nat.le_refl _, rfl, b2, HCE.out.symm.trans HCH.out, by omega, by omega, HLR.out, by omega, HW13.out, by omega, HNS13.out, HBX13.out, HK13.out⟩
    · obtain rfl : h = 8 := by omega
      go_wp2_with fail
      go_end0
      refine ⟨rfl, ?_, HKP.out⟩
      rw [HSH.out]
      exact HW.out
theorem dir_all (g : Nat) : DirOk g := Nat.strongRecOn g fun g ih => dir_any g ih
end Go.Proofs.YtiefcgmghkkbmaaGreatDoor
