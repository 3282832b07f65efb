/-
  Disks of extents: a file is deleted: both sides.
-/
import Derived.Test.YtmgcaiilocifbaaDoorXsT
import Derived.Test.YtmgcaiilocifbaaDoorXuS
import Derived.Deep.DeepCutAuto
namespace Go.Proofs.YtmgcaiilocifbaaDoor
open Go Go.ChangeShapes Go.WideShapes Go.ChangeAt Go.RowKit lib
set_option linter.unusedVariables false
set_option linter.unusedSimpArgs false
set_option maxRecDepth 100000
theorem marks_same {z : Nat} {x : UInt8} {k i : Nat} (hi : i < 16) : ∀ (l : List Nat) (U : Nat → UInt8), k ∉ l → marksX z U x l (z + k * 16 + i) = U (z + k * 16 + i)
  | [], U, _ => rfl
  | a :: l, U, h => by
    rw [marksX, marks_same hi l _ (fun q => h (List.mem_cons_of_mem _ q)), upd_other]
    intro e
    have : k ≠ a := fun q => h (by rw [q]; exact List.mem_cons_self)
    omega
open Classical in
theorem picks_nodup (Q : Nat → Prop) (E : Nat) : (picks Q E).Nodup := List.Nodup.sublist List.filter_sublist List.nodup_range
theorem take_more {l : List Nat} {j : Nat} (h : j < l.length) : l.take (j + 1) = l.take j ++ [l.getD j 0] := by
  rw [List.take_add_one, List.getElem?_eq_getElem h, List.getD_eq_getElem?_getD, List.getElem?_eq_getElem h]
  rfl
theorem not_taken {l : List Nat} (h : l.Nodup) {j : Nat} (hj : j < l.length) : l.getD j 0 ∉ l.take j := by
  intro hm
  obtain ⟨i, hi, he⟩ := List.mem_iff_getElem.1 hm
  simp only [List.length_take] at hi
  rw [List.getElem_take, List.getD_eq_getElem?_getD, List.getElem?_eq_getElem hj] at he
  have := (List.getElem_inj h).1 he
  omega
theorem getD_mem {l : List Nat} {j : Nat} (hj : j < l.length) : l.getD j 0 ∈ l := by
  rw [List.getD_eq_getElem?_getD, List.getElem?_eq_getElem hj]
  exact List.getElem_mem hj
/-- the used entries of a file on a disk -/
noncomputable def fileOf (n : Nat) (s : Nat → ByteArray) (nm : ByteArray) : List Nat := picks (usedBy (s 0).size (joinU (s 0).size s) nm) (entsX n)
/-- the disk's bytes when a file is deleted -/
noncomputable def delX (n : Nat) (s : Nat → ByteArray) (nm : ByteArray) : Nat → UInt8 := marksX (s 0).size (joinU (s 0).size s) 229 (fileOf n s nm)
open Classical in
noncomputable def delXCode (n : Nat) (s : Nat → ByteArray) : Int := if opensX n s then 3 else 7
theorem shapeX {n : Nat} {s : Nat → ByteArray} (h : opensX n s) : LayOk n (s 0).size ∧ 8 ≤ (s 0).size ∧ (s 0).size ≤ 32 ∧ n ≤ 128 ∧ 8 ≤ n ∧ n * (s 0).size ≤ 4096 ∧ entsX n ≤ 32 ∧ (∀ k, k < entsX n → (s 0).size + k * 16 + 16 ≤ n * (s 0).size) ∧ ∀ i, i < n → (s i).size = (s 0).size := by
  have hl : LayOk n (s 0).size := ⟨h.1.lo, h.1.hi, h.1.sz⟩
  have hz8 : 8 ≤ (s 0).size := by have := h.1.sz; omega
  have hz32 : (s 0).size ≤ 32 := by have := h.1.sz; omega
  exact ⟨hl, hz8, hz32, h.1.hi, h.1.lo, Nat.mul_le_mul h.1.hi hz32, (layX_data hl).2.2, fun k hk => layX_fits hl hk, h.1.all⟩
theorem noName {z : Nat} {U : Nat → UInt8} {E : Nat} : picks (usedBy z U ⟨#[]⟩) E = [] := by
  have : ∀ k, k ∉ picks (usedBy z U ⟨#[]⟩) E := fun k hk => by
    obtain ⟨_, h1, h2⟩ := mem_picks.1 hk
    exact names_ne (xen_name (by rw [h1]; decide)) h2
  exact List.eq_nil_iff_forall_not_mem.2 this
theorem usedAs_by {z : Nat} {U : Nat → UInt8} {E : Nat} {nm : ByteArray} (h : nm ≠ ⟨#[]⟩) : picks (usedAs z U nm) E = picks (usedBy z U nm) E :=
  picks_congr fun k _ => ⟨fun q => ⟨q.1, q.2.resolve_left h⟩, fun q => ⟨q.1, .inr q.2⟩⟩
theorem NatR.farX {B c : Nat} {w : World} {A : Option Addr} {l : List Nat} (h : NatR B w A c l) {p : Addr} (hp : p.block < B) (x : Value) : NatR B (w.setCell p x) A c l :=
  World.ownsRow.kept h (only_setCell (g := p.block) (only_refl w _) (.inl rfl) x) (by
    cases hv : (Value.slice A l.length c).ownBlock with
    | none => exact .inl rfl
    | some o => exact .inr fun e => by have := own_lt h o hv; simp only [Option.some.injEq] at e; omega)
theorem XW.put {w : World} {p g n z E t N c : Nat} {u : Nat → UInt8} (h : XW w p g n z E t N c u) (k : Nat) (x : UInt8) {v : Int} (hv : v = (x.toNat : Int)) : XW (w.setCell ⟨g, k, none⟩ (.int .u8 v)) p g n z E t N c (upd u k x) :=
  ⟨h.lay.far h.ne _, h.row.set x hv, h.ne⟩
set_option maxHeartbeats 2000000 in
theorem implDelX_ok {w : World} {n c : Nat} {A : Option Addr} {s : Nat → ByteArray} (nm : ByteArray) (hnm : nm.size ≤ 9223372036854775807) (hs : Sl w w.heap.size A n (fun i => .string (s i))) (hsz : ∀ i, i < n → (s i).size ≤ 9223372036854775807) (hn : n ≤ c) (hn2 : n ≤ 9223372036854775807) (ho : opensX n s) (hl : fileOf n s nm ≠ []) :
    Calls Tryd.prog 18 #[.slice A n c, .string nm] w fun r w' => ∃ A2 c2, r = .returned (.tuple #[.slice A2 n c2, .int .i64 0]) ∧ w'.ownsRow w.heap.size 9 1 (.slice A2 n c2) n ((List.range n).map fun i => .string (blkOf (s 0).size (delX n s nm) i)) ∧ Below w.heap.size w w' := by
  have HO := Lib.hid (implOpenX hs hsz hn hn2)
  obtain ⟨f1, f2, f3, f4, f5, f6, f7, f8, f9⟩ := shapeX ho
  unfold delX
  obtain ⟨l, hll⟩ : ∃ l, l = fileOf n s nm := ⟨_, rfl⟩
  rw [← hll] at hl ⊢
  unfold fileOf at hll
  obtain ⟨z, hz⟩ : ∃ z, (s 0).size = z := ⟨_, rfl⟩
  rw [hz] at f2 f3 f6 f8 hll ⊢
  have HZ := Lib.hid hz
  have HL := Lib.hid hll
  have HFI := Lib.hid (fun (W : World) (p g cc : Nat) (hx : XW W p g n z (entsX n) (dataX n z) (n * z) cc (joinU z s)) (hcap : n * z ≤ cc) => (show Calls Tryd.prog 38 #[.pointer (some ⟨p, 0, none⟩), .string nm] W fun r w' => FOut r W w' (xen z (joinU z s)) l by rw [hll]; exact implFileX_any nm hx f7 f8 f6 hcap (by omega) hnm))
  have HOP := Lib.hid ho
  have HF8 := Lib.hid f8
  have hlen : l.length ≤ 32 := by rw [hll]; exact Nat.le_trans (picks_len _ _) f7
  have hl0 : 0 < l.length := List.length_pos_iff.2 hl
  have e0 : ((l.length : Int) == 0) = false := by simp; omega
  have e0' : ((l.length : Int) = 0) = False := by simp; omega
  have e0n : (l = []) = False := by simp [hl]
  have hlt : ∀ j, j < l.length → l.getD j 0 < entsX n := fun j hj => by
    have := getD_mem hj
    rw [hll] at this
    exact (mem_picks.1 (by rwa [← hll] at this ⊢)).1
  have HLT := Lib.hid hlt
  clear ho hs hsz hz hll hl f1 f8 f9 hlt
  go_enter Tryd.func18, Tryd.ntmps18
  go_upto_region 7 with (first
    | (go_at_call 31; refine HO.out.mono ?_; rintro r w1 ⟨h1, _⟩; obtain ⟨p, rfl, ow⟩ := h1 HOP.out; rw [HZ.out] at ow; obtain ⟨g, cc, hx, hcap, hb1, hp, hg⟩ := ow)
    | (go_at_call 38; refine (HFI.out _ _ _ _ hx hcap).mono ?_; rintro r w2 ⟨a, ca, A1, A2, c1, c2, rfl, her, hes, hna, hb2⟩))
  have hB2 := hb1.trans (hb2.mono hb1.size)
  have HX2 := Lib.hid (hx.below hb2)
  have HNA := Lib.hid hna
  have HB2 := Lib.hid hB2
  have hgl := hx.row.lt
  have hpl := hx.lay.lt
  clear her hes hna hb2 hB2 hb1
  go_wp2_with fail
  go_loopw [11, 30] (fun s11 s30 wr => ∃ j : Nat, j ≤ l.length ∧ s30 = .int .i64 j ∧ XW wr p g n z (entsX n) (dataX n z) (n * z) cc (marksX z (joinU z s) 229 (l.take j)) ∧ NatR w1.heap.size wr A2 c2 l ∧ Below w.heap.size w wr) (fun _ i _ => l.length - (intOf i).toNat)
  case atStart => exact ⟨0, Nat.zero_le _, rfl, by simpa [marksX] using HX2.out, HNA.out, HB2.out⟩
  case round =>
    obtain ⟨j, hj, rfl, hxr, hna, hb⟩ := hrel
    by_cases hlt : j < l.length
    · have hkE := HLT.out j hlt
      have hfit := HF8.out _ hkE
      obtain ⟨b2, o2, rfl, hb2l, hcj⟩ := hna.sl j hlt
      dsimp only at hcj
      have htk := take_more hlt
      obtain ⟨k, hk⟩ : ∃ k, l.getD j 0 = k := ⟨_, rfl⟩
      rw [hk] at hcj htk hkE hfit
      have hEB := Lib.hid (implEntryBytesX_any k (z + k * 16) hxr rfl hfit (by omega) hcap (by omega))
      have hcell := hxr.row.cell (i := z + k * 16) (by omega)
      have hfr := hxr.row.frozen (i := z + k * 16) (by omega)
      have HXR := Lib.hid hxr
      have HTK := Lib.hid htk
      have HNR := Lib.hid hna
      clear hxr htk hna hk
      go_wp2_with (go_at_call 39; refine hEB.out.mono ?_; rintro e3 w3 ⟨rfl, hw3⟩; rw [hw3]; clear hw3 w3)
      go_roundw
      case rel =>
        refine ⟨j + 1, by omega, by go_num, ?_, HNR.out.farX (by show g < w1.heap.size; exact hgl) _, hb.setCell (by show w.heap.size ≤ g; exact hg) _⟩
        rw [HTK.out, marksX_snoc]
        exact HXR.out.put (z + k * 16) 229 rfl
      case measure => simp [intOf]; omega
    · obtain rfl : j = l.length := by omega
      rw [List.take_length] at hxr
      have hbs := hb.size
      go_wp2_with (go_at_call 40; refine (implDiskX_any hxr rfl f4 f3 (by omega) hcap).mono ?_; rintro r w4 ⟨A4, c4, rfl, ho4, hb4⟩)
      go_ret2
      exact ⟨A4, c4, rfl, own_base ho4 hbs, hb.trans (hb4.mono hbs)⟩
theorem implDelX_bad {w : World} {n c : Nat} {A : Option Addr} {s : Nat → ByteArray} (nm : ByteArray) (hnm : nm.size ≤ 9223372036854775807) (hs : Sl w w.heap.size A n (fun i => .string (s i))) (hsz : ∀ i, i < n → (s i).size ≤ 9223372036854775807) (hn : n ≤ c) (hn2 : n ≤ 9223372036854775807) (hbad : ¬ (opensX n s ∧ fileOf n s nm ≠ [])) :
    Calls Tryd.prog 18 #[.slice A n c, .string nm] w fun r w' => r = .returned (.tuple #[.slice none 0 0, .int .i64 (delXCode n s)]) ∧ Below w.heap.size w w' := by
  have HO := Lib.hid (implOpenX hs hsz hn hn2)
  by_cases ho : opensX n s
  · have hl : fileOf n s nm = [] := Classical.byContradiction fun q => hbad ⟨ho, q⟩
    obtain ⟨f1, f2, f3, f4, f5, f6, f7, f8, f9⟩ := shapeX ho
    have hcode : delXCode n s = 3 := by unfold delXCode; rw [if_pos ho]
    rw [hcode]
    unfold fileOf at hl
    obtain ⟨z, hz⟩ : ∃ z, (s 0).size = z := ⟨_, rfl⟩
    rw [hz] at f2 f3 f6 f8 hl
    have HZ := Lib.hid hz
    have HOP := Lib.hid ho
    have HFI := Lib.hid (fun (W : World) (p g cc : Nat) (hx : XW W p g n z (entsX n) (dataX n z) (n * z) cc (joinU z s)) (hcap : n * z ≤ cc) => (show Calls Tryd.prog 38 #[.pointer (some ⟨p, 0, none⟩), .string nm] W fun r w' => FOut r W w' (xen z (joinU z s)) [] by rw [← hl]; exact implFileX_any nm hx f7 f8 f6 hcap (by omega) hnm))
    clear ho hs hsz hz hl f1 f8 f9 hcode hbad
    go_enter Tryd.func18, Tryd.ntmps18
    go_wp2_with (first
      | (go_at_call 31; refine HO.out.mono ?_; rintro r w1 ⟨h1, _⟩; obtain ⟨p, rfl, ow⟩ := h1 HOP.out; rw [HZ.out] at ow; obtain ⟨g, cc, hx, hcap, hb1, hp, hg⟩ := ow)
      | (go_at_call 38; refine (HFI.out _ _ _ _ hx hcap).mono ?_; rintro r w2 ⟨a, ca, A1, A2, c1, c2, rfl, her, hes, hna, hb2⟩))
    go_ret2
    exact ⟨rfl, hb1.trans (hb2.mono hb1.size)⟩
  · have hcode : delXCode n s = 7 := by unfold delXCode; rw [if_neg ho]
    rw [hcode]
    have HOP := Lib.hid ho
    clear ho hs hsz hcode hbad
    go_enter Tryd.func18, Tryd.ntmps18
    go_wp2_with (go_at_call 31; refine HO.out.mono ?_; rintro r w1 ⟨_, h1⟩; obtain ⟨rfl, hb1⟩ := h1 HOP.out)
    go_ret2
    exact ⟨rfl, hb1⟩
set_option maxHeartbeats 2000000 in
theorem specDelX_ok {w : World} {n c : Nat} {A : Option Addr} {s : Nat → ByteArray} (nm : ByteArray) (hnm : nm.size ≤ 9223372036854775807) (hs : Sl w w.heap.size A n (fun i => .string (s i))) (hsz : ∀ i, i < n → (s i).size ≤ 9223372036854775807) (hn : n ≤ c) (hn2 : n ≤ 9223372036854775807) (ho : opensX n s) (hl : fileOf n s nm ≠ []) :
    Calls Tryd.prog 17 #[.slice A n c, .string nm] w fun r w' => ∃ A2 c2, r = .returned (.tuple #[.slice A2 n c2, .int .i64 0]) ∧ w'.ownsRow w.heap.size 9 1 (.slice A2 n c2) n ((List.range n).map fun i => .string (blkOf (s 0).size (delX n s nm) i)) ∧ Below w.heap.size w w' := by
  have HO := Lib.hid (specOpenX (c := c) hs hsz)
  obtain ⟨f1, f2, f3, f4, f5, f6, f7, f8, f9⟩ := shapeX ho
  have hnm0 : nm ≠ ⟨#[]⟩ := fun q => hl (by rw [q]; exact noName)
  unfold delX
  obtain ⟨l, hll⟩ : ∃ l, l = fileOf n s nm := ⟨_, rfl⟩
  rw [← hll] at hl ⊢
  unfold fileOf at hll
  obtain ⟨z, hz⟩ : ∃ z, (s 0).size = z := ⟨_, rfl⟩
  rw [hz] at f2 f3 f6 f8 f9 hll ⊢
  have HZ := Lib.hid hz
  have HS := Lib.hid hs
  have hall : (List.range n).map (fun i => Value.string (s i)) = (List.range n).map fun i => Value.string (blkOf z (joinU z s) i) := by
    apply List.map_congr_left
    intro i hi
    simp only [List.mem_range] at hi
    congr 1
    refine ba_ext (by rw [f9 i hi, blk_size]) fun j hj => ?_
    rw [f9 i hi] at hj
    rw [blk_at hj, joinU_at _ _ hj]
  have HALL := Lib.hid hall
  have HF9 := Lib.hid f9
  have HUS := Lib.hid (fun (W : World) (q : Nat) (hW : Below w.heap.size w W) (hr : Rw W q 44 #[.int .i64 n, .int .i64 z, .int .i64 (entsX n), .int .i64 (dataX n z)]) => (show Calls Tryd.prog 34 #[.slice A n c, .pointer (some ⟨q, 0, none⟩), .string nm] W fun r w' => ∃ A2 c2, r = .returned (.slice A2 l.length c2) ∧ NatR W.heap.size w' A2 c2 l ∧ Below W.heap.size W w' by rw [hll, ← usedAs_by hnm0]; exact specUsedX_any nm ((hs.below hW).more hW.size) f9 hr f2 f3 f4 f7 f8))
  have HOP := Lib.hid ho
  have HF8 := Lib.hid f8
  have hlen : l.length ≤ 32 := by rw [hll]; exact Nat.le_trans (picks_len _ _) f7
  have hl0 : 0 < l.length := List.length_pos_iff.2 hl
  have e0 : ((l.length : Int) == 0) = false := by simp; omega
  have e0' : ((l.length : Int) = 0) = False := by simp; omega
  have e0n : (l = []) = False := by simp [hl]
  have en0 : nm.toList.isEmpty = false := isEmpty_no hnm0
  have hmem : ∀ j, j < l.length → l.getD j 0 < entsX n ∧ (xen z (joinU z s) (l.getD j 0)).st = 1 := fun j hj => by
    have := getD_mem hj
    rw [hll] at this
    have h2 := mem_picks.1 (by rwa [← hll] at this ⊢)
    exact ⟨h2.1, h2.2.1⟩
  have HLT := Lib.hid hmem
  have HND := Lib.hid (show l.Nodup by rw [hll]; exact picks_nodup _ _)
  clear ho hs hsz hz hll hl f1 f8 f9 hmem hnm0 hall
  go_enter Tryd.func17, Tryd.ntmps17
  go_upto_region 4 with (go_at_call 29; refine HO.out.mono ?_; rintro r w1 ⟨h1, _⟩; obtain ⟨rfl, hb1⟩ := h1 HOP.out; rw [HZ.out]; unfold layX)
  have hR2 := Rw.new w1 44 #[.int .i64 n, .int .i64 z, .int .i64 (entsX n), .int .i64 (dataX n z)]
  have hB2 := hb1.alloc hb1.size (.cells #[.int .i64 n, .int .i64 z, .int .i64 (entsX n), .int .i64 (dataX n z)] 44)
  obtain ⟨q, hq⟩ : ∃ q, w1.heap.size = q := ⟨_, rfl⟩
  have hqw : w.heap.size ≤ q := by rw [← hq]; exact hb1.size
  generalize w1.alloc (.cells #[.int .i64 n, .int .i64 z, .int .i64 (entsX n), .int .i64 (dataX n z)] 44) = W2 at *
  rw [hq] at hR2 ⊢
  clear hq hb1
  go_upto_region 7 with (go_at_call 34; refine (HUS.out _ q hB2 hR2).mono ?_; rintro r w3 ⟨A2, c2, rfl, hna, hb3⟩)
  have hB3 := hB2.trans (hb3.mono hB2.size)
  have hR3 := hR2.below hb3 hR2.lt
  have hql := hR3.lt
  go_upto_region 8 with (go_at_call 35; refine (specOwnX_any ((HS.out.below hB3).more hB3.size) (by omega)).mono ?_; rintro r w4 ⟨A4, c4, rfl, ho4, hb4⟩)
  rw [HALL.out] at ho4
  obtain ⟨g, cap4, e1, hgB, hgl⟩ := ho4.form (by omega)
  simp only [Value.slice.injEq] at e1
  obtain ⟨rfl, _, rfl⟩ := e1
  have HO4 := Lib.hid ho4
  have HNA := Lib.hid (hna.below hb4)
  have HR3 := Lib.hid hR3
  have HB3 := Lib.hid hB3
  have HB4 := Lib.hid hb4
  have hz3 := hB3.size
  have HNS := Lib.hid (hna.sl)
  clear ho4 hna hR3 hB3 hb4 hR2 hB2 hb3
  go_wp2_with fail
  go_loopw [10, 11, 12] (fun s10 s11 s12 wr => ∃ j : Nat, j ≤ l.length ∧ s10 = .int .i64 j ∧ wr.ownsRow w3.heap.size 9 1 (.slice (some ⟨g, 0, none⟩) n c4) n ((List.range n).map fun i => Value.string (blkOf z (marksX z (joinU z s) 229 (l.take j)) i)) ∧ Below w3.heap.size w3 wr) (fun i _ _ _ => l.length - (intOf i).toNat)
  case atStart => exact ⟨0, Nat.zero_le _, rfl, by simpa [marksX] using HO4.out, HB4.out⟩
  case round =>
    obtain ⟨j, hj, rfl, hor, hb⟩ := hrel
    have hwr := hb.size
    by_cases hlt : j < l.length
    · obtain ⟨hkE, hst⟩ := HLT.out j hlt
      have hfit := HF8.out _ hkE
      obtain ⟨b2, o2, rfl, hb2l, hcj⟩ := (HNS.out.below hb) j hlt
      dsimp only at hcj
      have htk := take_more hlt
      have hnt := not_taken HND.out hlt
      obtain ⟨k, hk⟩ : ∃ k, l.getD j 0 = k := ⟨_, rfl⟩
      rw [hk] at hcj htk hkE hfit hst hnt
      have hRr := HR3.out.below hb hql
      have hSr : Sl wr wr.heap.size A n (fun i => .string (s i)) := ((HS.out.below (HB3.out)).below (hb.mono hz3)).more (by omega)
      have hgd : xGood z (xby z (joinU z s) k) := xen_used (by rw [hst]; decide)
      have HEG := Lib.hid ((specEntryX_any (c := c) hSr HF9.out hRr f2 f3 f4 hfit).mono fun r w' q => xEnt_good (v := xby z (joinU z s) k) q hgd)
      obtain ⟨e, he⟩ : ∃ e, e = xen z (joinU z s) k := ⟨_, rfl⟩
      have hgx : xent z (xby z (joinU z s) k) = e := he.symm
      rw [hgx] at HEG
      unfold XE.val at HEG
      have hok : ({ e with st := 229 } : XE).ok z := by
        rw [he]
        rcases xen_ok z (joinU z s) k with ⟨h1, _⟩ | ⟨_, h2⟩
        · rw [hst] at h1; cases h1
        · exact .inr ⟨.inr rfl, h2⟩
      have hput : putX z (marksX z (joinU z s) 229 (l.take j)) k { e with st := 229 } = upd (marksX z (joinU z s) 229 (l.take j)) (z + k * 16) 229 := by
        funext i
        rw [he]
        exact putX_state (by rw [hst]; decide) (by decide) (fun i hi => marks_same hi _ _ hnt) i
      have HKJ := Lib.hid hk
      have HOK := Lib.hid hok
      have HPUT := Lib.hid hput
      have HTK := Lib.hid htk
      have HOR := Lib.hid hor
      clear hok hput htk hor hgx he hst hnt hgd hk hRr hSr
      go_upto_region 12 with (go_at_call 36; refine HEG.out.mono ?_; rintro r w5 ⟨A5, c5, rfl, hi5, hb5⟩)
      have hE6 := Rw.new w5 56 #[.int .i64 e.st, .string e.nm, .int .i64 e.no, .int .i64 e.tl, .slice A5 e.bl.length c5]
      have hI6 := hi5.below ((Below.refl w5.heap.size w5).alloc (Nat.le_refl _) (.cells #[.int .i64 e.st, .string e.nm, .int .i64 e.no, .int .i64 e.tl, .slice A5 e.bl.length c5] 56))
      have hB6 := hb5.alloc hb5.size (.cells #[.int .i64 e.st, .string e.nm, .int .i64 e.no, .int .i64 e.tl, .slice A5 e.bl.length c5] 56)
      obtain ⟨eb, heb⟩ : ∃ eb, w5.heap.size = eb := ⟨_, rfl⟩
      have hebw : wr.heap.size ≤ eb := by rw [← heb]; exact hb5.size
      generalize w5.alloc (.cells #[.int .i64 e.st, .string e.nm, .int .i64 e.no, .int .i64 e.tl, .slice A5 e.bl.length c5] 56) = W6 at *
      rw [heb] at hE6 ⊢
      clear heb hi5 hb5
      have y0 := hE6.cell 0
      have y0f := hE6.frozen 0
      have hE7 := hE6.set 0 (.int .i64 229)
      have hne7 : w3.heap.size ≤ eb := by omega
      have hI7 : IntR wr.heap.size (W6.setCell ⟨eb, 0, none⟩ (.int .i64 229)) A5 c5 e.bl := World.ownsRow.kept hI6 (only_setCell (g := eb) (only_refl W6 _) (.inl rfl) _) (own_neR hI6 hE6 tIE)
      have hO7 : (W6.setCell ⟨eb, 0, none⟩ (.int .i64 229)).ownsRow w3.heap.size 9 1 (.slice (some ⟨g, 0, none⟩) n c4) n ((List.range n).map fun i => Value.string (blkOf z (marksX z (joinU z s) 229 (l.take j)) i)) := World.ownsRow.kept (own_below HOR.out hB6) (only_setCell (g := eb) (only_refl W6 _) (.inl rfl) _) (own_neR (own_below HOR.out hB6) hE6 (by decide))
      have hR7 := ((HR3.out.below (hb.trans (hB6.mono hwr)) hql).far (p := ⟨eb, 0, none⟩) (by show q ≠ eb; omega) (.int .i64 229))
      have hb7 := (hb.trans (hB6.mono hwr)).setCell (p := ⟨eb, 0, none⟩) (by show w3.heap.size ≤ eb; exact hne7) (.int .i64 229)
      go_upto_region 13 with fail
      generalize W6.setCell ⟨eb, 0, none⟩ (.int .i64 229) = W7 at *
      obtain ⟨b3, o3, e3, hb3l, hcj7⟩ := (HNS.out.below hb7) j hlt
      simp only [Option.some.injEq, Addr.mk.injEq, and_true] at e3
      obtain ⟨rfl, rfl⟩ := e3
      dsimp only at hcj7
      have hkq : l.getD j 0 = k := HKJ.out
      rw [hkq] at hcj7
      have HSET := Lib.hid (specSetX_any { e with st := 229 } HOK.out hO7 (by have := hb7.size; omega) hR7 hE7 hI7.sl f2 f3 f4 hfit)
      rw [HPUT.out] at HSET
      have HB7 := Lib.hid hb7
      have hs7 := hb7.size
      clear hI6 hI7 hO7 hR7 hb7 hE6 hE7 y0 y0f hB6 hkq
      go_wp2_with (go_at_call 37; refine HSET.out.mono ?_; rintro r w8 ⟨rfl, ho8, hg8⟩)
      go_roundw
      case rel =>
        refine ⟨j + 1, by omega, by go_num, ?_, HB7.out.grown hg8 hs7 (fun j hj => by injection hj with hj; omega)⟩
        rw [HTK.out, marksX_snoc]
        exact ho8
      case measure => simp [intOf]; omega
    · obtain rfl : j = l.length := by omega
      rw [List.take_length] at hor
      go_wp2_with fail
      go_ret2
      exact ⟨_, _, rfl, own_base hor hz3, HB3.out.trans (hb.mono hz3)⟩
theorem specDelX_bad {w : World} {n c : Nat} {A : Option Addr} {s : Nat → ByteArray} (nm : ByteArray) (hnm : nm.size ≤ 9223372036854775807) (hs : Sl w w.heap.size A n (fun i => .string (s i))) (hsz : ∀ i, i < n → (s i).size ≤ 9223372036854775807) (hn : n ≤ c) (hn2 : n ≤ 9223372036854775807) (hbad : ¬ (opensX n s ∧ fileOf n s nm ≠ [])) :
    Calls Tryd.prog 17 #[.slice A n c, .string nm] w fun r w' => r = .returned (.tuple #[.slice none 0 0, .int .i64 (delXCode n s)]) ∧ Below w.heap.size w w' := by
  have HO := Lib.hid (specOpenX (c := c) hs hsz)
  by_cases ho : opensX n s
  · have hl : fileOf n s nm = [] := Classical.byContradiction fun q => hbad ⟨ho, q⟩
    obtain ⟨f1, f2, f3, f4, f5, f6, f7, f8, f9⟩ := shapeX ho
    have hcode : delXCode n s = 3 := by unfold delXCode; rw [if_pos ho]
    rw [hcode]
    unfold fileOf at hl
    obtain ⟨z, hz⟩ : ∃ z, (s 0).size = z := ⟨_, rfl⟩
    rw [hz] at f2 f3 f6 f8 f9 hl
    have HZ := Lib.hid hz
    have HOP := Lib.hid ho
    have HUS := Lib.hid (fun (W : World) (q : Nat) (hW : Below w.heap.size w W) (hr : Rw W q 44 #[.int .i64 n, .int .i64 z, .int .i64 (entsX n), .int .i64 (dataX n z)]) => specUsedX_any (c := c) nm ((hs.below hW).more hW.size) f9 hr f2 f3 f4 f7 f8)
    by_cases hnm0 : nm = ⟨#[]⟩
    · subst hnm0
      clear ho hs hsz hz f1 f8 f9 hcode hbad hl
      generalize picks (usedAs z (joinU z s) ⟨#[]⟩) (entsX n) = l at *
      go_enter Tryd.func17, Tryd.ntmps17
      go_upto_region 4 with (go_at_call 29; refine HO.out.mono ?_; rintro r w1 ⟨h1, _⟩; obtain ⟨rfl, hb1⟩ := h1 HOP.out; rw [HZ.out]; unfold layX)
      have hR2 := Rw.new w1 44 #[.int .i64 n, .int .i64 z, .int .i64 (entsX n), .int .i64 (dataX n z)]
      have hB2 := hb1.alloc hb1.size (.cells #[.int .i64 n, .int .i64 z, .int .i64 (entsX n), .int .i64 (dataX n z)] 44)
      by_cases hl0 : l.length = 0
      · obtain rfl : l = [] := List.length_eq_zero_iff.1 hl0
        have HUS2 := Lib.hid (HUS.out _ _ hB2 hR2)
        clear HUS hl0
        go_wp2_with (go_at_call 34; refine HUS2.out.mono ?_; rintro r w3 ⟨A2, c2, rfl, hna, hb3⟩)
        go_ret2
        exact ⟨rfl, hB2.trans (hb3.mono hB2.size)⟩
      · have q3 : (l = []) = False := by
          rw [eq_iff_iff, iff_false]
          intro h
          rw [h] at hl0
          exact hl0 rfl
        have q1 : ((l.length : Int) == 0) = false := by simp [q3]
        have q2 : ((l.length : Int) = 0) = False := by simp [q3]
        have HUS2 := Lib.hid (HUS.out _ _ hB2 hR2)
        clear HUS hl0
        go_wp2_with (go_at_call 34; refine HUS2.out.mono ?_; rintro r w3 ⟨A2, c2, rfl, hna, hb3⟩)
        go_ret2
        exact ⟨rfl, hB2.trans (hb3.mono hB2.size)⟩
    · rw [usedAs_by hnm0, hl] at HUS
      clear ho hs hsz hz f1 f8 f9 hcode hbad hl hnm0
      go_enter Tryd.func17, Tryd.ntmps17
      go_upto_region 4 with (go_at_call 29; refine HO.out.mono ?_; rintro r w1 ⟨h1, _⟩; obtain ⟨rfl, hb1⟩ := h1 HOP.out; rw [HZ.out]; unfold layX)
      have hR2 := Rw.new w1 44 #[.int .i64 n, .int .i64 z, .int .i64 (entsX n), .int .i64 (dataX n z)]
      have hB2 := hb1.alloc hb1.size (.cells #[.int .i64 n, .int .i64 z, .int .i64 (entsX n), .int .i64 (dataX n z)] 44)
      have HUS2 := Lib.hid (HUS.out _ _ hB2 hR2)
      clear HUS
      go_wp2_with (go_at_call 34; refine HUS2.out.mono ?_; rintro r w3 ⟨A2, c2, rfl, hna, hb3⟩)
      go_ret2
      exact ⟨rfl, hB2.trans (hb3.mono hB2.size)⟩
  · have hcode : delXCode n s = 7 := by unfold delXCode; rw [if_neg ho]
    rw [hcode]
    have HOP := Lib.hid ho
    clear ho hs hsz hcode hbad
    go_enter Tryd.func17, Tryd.ntmps17
    go_wp2_with (go_at_call 29; refine HO.out.mono ?_; rintro r w1 ⟨_, h1⟩; obtain ⟨rfl, hb1⟩ := h1 HOP.out; unfold layX)
    go_ret2
    exact ⟨rfl, hb1.alloc hb1.size _⟩
end Go.Proofs.YtmgcaiilocifbaaDoor
