/-
  Trees: an entry deleted: plain.
  Trees: a disk of the reference's own is changed: a byte set, a mark, a block released.
  Trees: blocks released, a file's blocks released: the reference's side.
  Trees: an entry taken out of its directory: the reference's side.
  Trees: blocks released: the program's side; what is deleted: plain facts.
  Trees: an entry deleted: what is found, and what is left: plain.
-/
import Derived.Test.YtiefcgmghkkbmaaGreatDoorTreR
import Derived.Test.YtiefcgmghkkbmaaGreatDoorBase
import Derived.Test.YtiefcgmghkkbmaaGreatDoorTreSc
import Derived.Test.YtiefcgmghkkbmaaGreatDoorTreRi
import Derived.Lib.SliceRun
import Derived.Laws.BitsAllLaws
import Derived.Test.YtiefcgmghkkbmaaGreatDoorTreN
namespace Go.Proofs.YtiefcgmghkkbmaaGreatDoor
open Go lib
set_option linter.unusedVariables false
set_option maxRecDepth 100000
/-- the same but for byte 1 -/
def Eq1 (x y : Nat → UInt8) : Prop := ∀ j, j ≠ 1 → x j = y j
theorem Eq1.refl (x : Nat → UInt8) : Eq1 x x := fun _ _ => rfl
theorem Eq1.symm {x y : Nat → UInt8} (h : Eq1 x y) : Eq1 y x := fun j hj => (h j hj).symm
theorem Eq1.trans {x y z : Nat → UInt8} (h : Eq1 x y) (k : Eq1 y z) : Eq1 x z := fun j hj => (h j hj).trans (k j hj)
theorem Eq1.upd {x y : Nat → UInt8} (h : Eq1 x y) (i : Nat) (v : UInt8) : Eq1 (lib.upd x i v) (lib.upd y i v) := fun j hj => by
  unfold lib.upd
  split
  · rfl
  · exact h j hj
theorem sealU_eq1 (x : Nat → UInt8) : Eq1 (sealU x) x := fun j hj => by
  unfold sealU
  rw [upd_other _ _ hj, upd_other _ _ hj]
theorem upd_eq1 {x y : Nat → UInt8} (h : Eq1 x y) : lib.upd x 1 0 = lib.upd y 1 0 := by
  funext j
  unfold lib.upd
  split
  · rfl
  · rename_i hj
    exact h j hj
theorem sealU_same {x y : Nat → UInt8} (h : Eq1 x y) : sealU x = sealU y := by
  unfold sealU
  rw [upd_eq1 h]
/-- the mark of block k is taken away -/
def rmk (k : Nat) (x : Nat → UInt8) : Nat → UInt8 := lib.upd x (12 + k / 8) (x (12 + k / 8) &&& (255 - bitU k))
theorem markU_false (x : Nat → UInt8) (k : Nat) : markU x k false = sealU (rmk k x) := rfl
theorem Eq1.rmk {x y : Nat → UInt8} (h : Eq1 x y) (k : Nat) : Eq1 (rmk k x) (rmk k y) := by
  unfold Go.Proofs.YtiefcgmghkkbmaaGreatDoor.rmk
  rw [h (12 + k / 8) (by omega)]
  exact h.upd _ _
theorem rmk_at (k : Nat) (x : Nat → UInt8) (j : Nat) : rmk k x j = if j = 12 + k / 8 then x j &&& (255 - bitU k) else x j := by
  unfold rmk lib.upd
  by_cases h : j = 12 + k / 8
  · rw [if_pos h, if_pos h, h]
  · rw [if_neg h, if_neg h]
theorem rmk_comm (a b : Nat) (x : Nat → UInt8) : rmk a (rmk b x) = rmk b (rmk a x) := by
  funext j
  rw [rmk_at, rmk_at, rmk_at, rmk_at]
  by_cases h1 : j = 12 + a / 8 <;> by_cases h2 : j = 12 + b / 8
  · rw [if_pos h1, if_pos h2, if_pos h2, if_pos h1, UInt8.and_assoc, UInt8.and_comm (255 - bitU b), ← UInt8.and_assoc]
  · rw [if_pos h1, if_neg h2, if_neg h2, if_pos h1]
  · rw [if_neg h1, if_pos h2, if_pos h2, if_neg h1]
  · rw [if_neg h1, if_neg h2, if_neg h2, if_neg h1]
theorem rmk_upd {i : Nat} (hi : i < 12) (k : Nat) (x : Nat → UInt8) (v : UInt8) : rmk k (lib.upd x i v) = lib.upd (rmk k x) i v := by
  funext j
  rw [rmk_at]
  unfold lib.upd
  by_cases h : j = i
  · rw [if_pos h, if_pos h, if_neg (by omega)]
  · rw [if_neg h, if_neg h, rmk_at]
/-- marks are taken away, one after another -/
def rmL (K : List Nat) (x : Nat → UInt8) : Nat → UInt8 := K.foldl (fun x k => rmk k x) x
theorem rmL_cons (k : Nat) (K : List Nat) (x : Nat → UInt8) : rmL (k :: K) x = rmL K (rmk k x) := rfl
theorem rmL_rmk : ∀ (K : List Nat) (k : Nat) (x : Nat → UInt8), rmL K (rmk k x) = rmk k (rmL K x)
  | [], k, x => rfl
  | a :: K, k, x => by rw [rmL_cons, rmL_cons, rmk_comm, rmL_rmk K k]
theorem rmL_eq1 : ∀ (K : List Nat) {x y : Nat → UInt8}, Eq1 x y → Eq1 (rmL K x) (rmL K y)
  | [], _, _, h => h
  | a :: K, _, _, h => rmL_eq1 K (h.rmk a)
theorem rmL_upd {i : Nat} (hi : i < 12) (v : UInt8) : ∀ (K : List Nat) (x : Nat → UInt8), rmL K (lib.upd x i v) = lib.upd (rmL K x) i v
  | [], x => rfl
  | a :: K, x => by rw [rmL_cons, rmL_cons, rmk_upd hi, rmL_upd hi v K]
/-- a block of a disk is changed -/
def setB (V : Nat → Nat → UInt8) (b : Nat) (x : Nat → UInt8) : Nat → Nat → UInt8 := fun i => if i = b then x else V i
theorem setB_same (V : Nat → Nat → UInt8) (b : Nat) (x : Nat → UInt8) : setB V b x b = x := if_pos rfl
theorem setB_other {V : Nat → Nat → UInt8} {b i : Nat} (x : Nat → UInt8) (h : i ≠ b) : setB V b x i = V i := if_neg h
/-- a byte of a block is set, and the block sealed -/
def putB (V : Nat → Nat → UInt8) (b at_ : Nat) (v : UInt8) : Nat → Nat → UInt8 := setB V b (sealU (lib.upd (V b) at_ v))
/-- a block is released -/
def dropB (V : Nat → Nat → UInt8) (k : Nat) : Nat → Nat → UInt8 := setB (setB V 0 (sealU (rmk k (V 0)))) k (fun _ => 0)
def dropL (V : Nat → Nat → UInt8) (K : List Nat) : Nat → Nat → UInt8 := K.foldl dropB V
theorem dropL_cons (V : Nat → Nat → UInt8) (k : Nat) (K : List Nat) : dropL V (k :: K) = dropL (dropB V k) K := rfl
theorem dropL_snoc (V : Nat → Nat → UInt8) (K : List Nat) (k : Nat) : dropL V (K ++ [k]) = dropB (dropL V K) k := by unfold dropL; rw [List.foldl_append]; rfl
theorem dropB_zero {V : Nat → Nat → UInt8} {k : Nat} (h : k ≠ 0) : dropB V k 0 = sealU (rmk k (V 0)) := by
  unfold dropB
  rw [setB_other _ (Ne.symm h), setB_same]
theorem dropB_same {V : Nat → Nat → UInt8} {k : Nat} : dropB V k k = fun _ => 0 := by unfold dropB; rw [setB_same]
theorem dropB_other {V : Nat → Nat → UInt8} {k i : Nat} (h : i ≠ k) (h0 : i ≠ 0) : dropB V k i = V i := by
  unfold dropB
  rw [setB_other _ h, setB_other _ h0]
theorem dropL_other : ∀ (K : List Nat) {V : Nat → Nat → UInt8} {i : Nat}, i ∉ K → i ≠ 0 → dropL V K i = V i
  | [], _, _, _, _ => rfl
  | k :: K, V, i, h, h0 => by
    rw [dropL_cons, dropL_other K (fun q => h (List.mem_cons_of_mem _ q)) h0, dropB_other (fun e => h (by rw [e]; exact List.mem_cons_self)) h0]
theorem dropL_in : ∀ (K : List Nat) {V : Nat → Nat → UInt8} {i : Nat}, i ∈ K → i ≠ 0 → dropL V K i = fun _ => 0
  | k :: K, V, i, h, h0 => by
    rw [dropL_cons]
    by_cases hi : i ∈ K
    · exact dropL_in K hi h0
    · rw [dropL_other K hi h0]
      rcases List.mem_cons.1 h with rfl | h
      · exact dropB_same
      · exact absurd h hi
theorem dropL_zero : ∀ (K : List Nat) {V : Nat → Nat → UInt8}, (∀ k ∈ K, k ≠ 0) → K ≠ [] → dropL V K 0 = sealU (rmL K (V 0))
  | [], _, _, h => absurd rfl h
  | [k], V, h, _ => dropB_zero (h k List.mem_cons_self)
  | k :: k' :: K, V, h, _ => by
    rw [dropL_cons, dropL_zero (k' :: K) (fun x hx => h x (List.mem_cons_of_mem _ hx)) (by simp), dropB_zero (h k List.mem_cons_self)]
    exact sealU_same (rmL_eq1 (k' :: K) (sealU_eq1 _))
/-- what the program leaves: the owner's link is changed, then the blocks are released -/
def delI (V : Nat → Nat → UInt8) (o at_ b : Nat) (P : List Nat) : Nat → Nat → UInt8 := dropL (putB V o at_ (V b 2)) (b :: P)
/-- a file's data blocks are released, and its fields set to nought -/
def clrS (V : Nat → Nat → UInt8) (b : Nat) (P : List Nat) : Nat → Nat → UInt8 := putB (putB (putB (dropL V P) b 14 0) b 12 0) b 13 0
/-- what the reference leaves -/
def delS (W : Nat → Nat → UInt8) (o at_ b : Nat) : Nat → Nat → UInt8 := dropB (putB W o at_ (W b 2)) b
theorem putB_other {V : Nat → Nat → UInt8} {b i at_ : Nat} {v : UInt8} (h : i ≠ b) : putB V b at_ v i = V i := setB_other _ h
theorem putB_same {V : Nat → Nat → UInt8} {b at_ : Nat} {v : UInt8} : putB V b at_ v b = sealU (lib.upd (V b) at_ v) := setB_same _ _ _
theorem putB_byte {V : Nat → Nat → UInt8} {b i at_ j : Nat} {v : UInt8} (h1 : j ≠ 1) (h2 : j ≠ at_) : putB V b at_ v i j = V i j := by
  by_cases h : i = b
  · subst h
    rw [putB_same, sealU_eq1 _ j h1, upd_other _ _ h2]
  · rw [putB_other h]
theorem clrS_other {V : Nat → Nat → UInt8} {b i : Nat} {P : List Nat} (h : i ≠ b) : clrS V b P i = dropL V P i := by
  unfold clrS
  rw [putB_other h, putB_other h, putB_other h]
theorem clrS_byte {V : Nat → Nat → UInt8} {b j : Nat} {P : List Nat} (hb : b ∉ P) (hb0 : b ≠ 0) (h1 : j ≠ 1) (h2 : j < 12) (i : Nat) : clrS V b P i j = dropL V P i j := by
  unfold clrS
  rw [putB_byte h1 (by omega), putB_byte h1 (by omega), putB_byte h1 (by omega)]
/-- a disk whose blocks but b are those of V after P was released: what deleting b leaves -/
theorem del_same {V W : Nat → Nat → UInt8} {o at_ b : Nat} {P : List Nat} (hb0 : b ≠ 0) (hP0 : ∀ k ∈ P, k ≠ 0) (hbP : b ∉ P) (hob : o ≠ b) (hoP : o ∉ P) (hat : o = 0 → at_ < 12) (hW : ∀ i, i ≠ b → W i = dropL V P i) (hW2 : W b 2 = V b 2) :
    delS W o at_ b = delI V o at_ b P := by
  funext i
  unfold delS delI
  rw [hW2]
  by_cases hib : i = b
  · subst hib
    rw [dropB_same, dropL_in _ List.mem_cons_self hb0]
  · by_cases hi0 : i = 0
    · subst hi0
      rw [dropB_zero hb0, dropL_zero (b :: P) (fun k hk => by
        rcases List.mem_cons.1 hk with rfl | hk
        · exact hb0
        · exact hP0 k hk) (by simp), rmL_cons]
      have hW0 : Eq1 (W 0) (rmL P (V 0)) := by
        rw [hW 0 hib]
        by_cases hPn : P = []
        · subst hPn; exact Eq1.refl _
        · rw [dropL_zero P hP0 hPn]
          exact sealU_eq1 _
      by_cases ho : o = 0
      · subst ho
        have h12 := hat rfl
        rw [putB_same, putB_same]
        refine sealU_same ?_
        refine ((sealU_eq1 _).rmk b).trans ?_
        refine ((hW0.upd at_ (V b 2)).rmk b).trans ?_
        rw [rmL_rmk]
        refine Eq1.symm (Eq1.trans ((rmL_eq1 P (sealU_eq1 _)).rmk b) ?_)
        rw [rmL_upd h12]
        exact Eq1.refl _
      · rw [putB_other (Ne.symm ho), putB_other (Ne.symm ho)]
        refine sealU_same ?_
        rw [rmL_rmk]
        exact hW0.rmk b
    · rw [dropB_other hib hi0]
      by_cases hiP : i ∈ P
      · have hio : i ≠ o := fun e => hoP (by rw [← e]; exact hiP)
        rw [putB_other hio, hW i hib, dropL_in P hiP hi0, dropL_in _ (List.mem_cons_of_mem _ hiP) hi0]
      · rw [dropL_other (b :: P) (fun q => by
          rcases List.mem_cons.1 q with q | q
          · exact hib q
          · exact hiP q) hi0]
        by_cases hio : i = o
        · subst hio
          rw [putB_same, putB_same, hW i hib, dropL_other P hiP hi0]
        · rw [putB_other hio, putB_other hio, hW i hib, dropL_other P hiP hi0]
end Go.Proofs.YtiefcgmghkkbmaaGreatDoor
namespace Go.Proofs.YtiefcgmghkkbmaaGreatDoor
open Go Go.ChangeShapes Go.WideShapes Go.ChangeAt Go.RowKit lib
set_option linter.unusedVariables false
set_option linter.unusedSimpArgs false
set_option maxRecDepth 100000
/-- a disk of the reference's own -/
def SpW (w : World) (p n B : Nat) (ga c : Nat) (V : Nat → Nat → UInt8) : Prop :=
  Row w p 40 #[.slice (some ⟨ga, 0, none⟩) n c] ∧ w.ownsRow B 9 1 (.slice (some ⟨ga, 0, none⟩) n c) n ((List.range n).map fun (i : Nat) => Value.string (bstr 32 (V i)))
theorem SpW.below {w w' : World} {p n B ga c : Nat} {V : Nat → Nat → UInt8} (h : SpW w p n B ga c V) (hb : Below w.heap.size w w') : SpW w' p n B ga c V := ⟨h.1.below hb h.1.lt, own_below h.2 hb⟩
theorem SpW.ptr {w : World} {p n B ga c : Nat} {V : Nat → Nat → UInt8} (h : SpW w p n B ga c V) : w.cell? ⟨p, 0, none⟩ = some (.slice (some ⟨ga, 0, none⟩) n c) := h.1.cell 0
theorem SpW.cell {w : World} {p n B ga c : Nat} {V : Nat → Nat → UInt8} (h : SpW w p n B ga c V) {i : Nat} (hi : i < n) : w.cell? ⟨ga, i, none⟩ = some (.string (bstr 32 (V i))) ∧ w.frozen? ⟨ga, i, none⟩ = false ∧ ga < w.heap.size ∧ B ≤ ga := by
  obtain ⟨g', cs, e, hB, hr, hz, hc⟩ := own_row h.2 (by omega)
  simp only [Option.some.injEq, Addr.mk.injEq, and_true] at e
  subst e
  have h1 := hc i (by omega)
  refine ⟨(hr.cell i).trans (h1.trans ?_), hr.frozen (by omega), hr.lt, hB⟩
  simp [hi]
theorem map_set_range (n b : Nat) (V : Nat → Nat → UInt8) (x : Nat → UInt8) : ((List.range n).map fun (i : Nat) => Value.string (bstr 32 (V i))).set b (.string (bstr 32 x)) = (List.range n).map fun (i : Nat) => Value.string (bstr 32 (setB V b x i)) := by
  apply List.ext_getElem
  · simp
  · intro i h1 h2
    simp at h2
    rw [List.getElem_set]
    by_cases hb : b = i
    · subst hb
      rw [if_pos rfl]
      simp [setB_same]
    · rw [if_neg hb]
      simp [setB_other x (fun e => hb e.symm)]
theorem SpW.set {w : World} {p n B ga c : Nat} {V : Nat → Nat → UInt8} (h : SpW w p n B ga c V) {b : Nat} (hb : b < n) (x : Nat → UInt8) : SpW (w.setCell ⟨ga, b, none⟩ (.string (bstr 32 x))) p n B ga c (setB V b x) := by
  refine ⟨?_, ?_⟩
  · exact Row.far h.1 (p := ⟨ga, b, none⟩) (fun e => own_ne h.2 h.1 (by decide) (congrArg some e)) _
  · have h2 := own_set h.2 (i := b) (by omega) (.string (bstr 32 x))
    rw [map_set_range] at h2
    exact h2
theorem byteAt_bstr {n i : Nat} {x : Nat → UInt8} (h : i < n) : byteAt (bstr n x) i = x i := bsT_at h
theorem brow_bstr {w : World} {e g : Nat} {x y : Nat → UInt8} (h : BRow w e g 32 x) (hx : ∀ i, i < 32 → x i = y i) : BRow w e g 32 y := by
  obtain ⟨cs, h1, h2, h3⟩ := h
  exact ⟨cs, h1, h2, fun i hi => by rw [h3 i hi, hx i hi]⟩
theorem usum_same {u v : Nat → UInt8} : ∀ k, (∀ i, i < k → u i = v i) → usum u k = usum v k
  | 0, _ => rfl
  | k + 1, h => by
    unfold usum
    rw [usum_same k (fun i hi => h i (by omega)), h k (by omega)]
set_option maxHeartbeats 8000000 in
theorem set_any {w : World} {p n B ga c b q : Nat} {V : Nat → Nat → UInt8} {v : UInt8} (ht : SpW w p n B ga c V) (hb : b < n) (hq : q < 32) (hn : n ≤ 128) (hB : B ≤ w.heap.size) :
    Calls Tryz.prog 84 #[.pointer (some ⟨p, 0, none⟩), .int .i64 (b : Int), .int .i64 (q : Int), .int .u8 (v.toNat : Int)] w fun e w' => e = .returned (.tuple #[]) ∧ SpW w' p n B ga c (putB V b q v) ∧ Below B w w' := by
  have c1 := ht.ptr
  obtain ⟨c2, _, _, hBg⟩ := ht.cell hb
  obtain ⟨S, hS⟩ : ∃ S, bstr 32 (V b) = S := ⟨_, rfl⟩
  have hSs : S.size = 32 := by rw [← hS]; exact bsT_size _ _
  rw [hS] at c2
  have HS := Lib.hid (show ∀ i, i < 32 → byteAt S i = V b i from fun i hi => by rw [← hS]; exact bsT_at hi)
  have cvt : ∀ W : World, (convert 9 45 (.string S)).run Tryz.prog W = .ok (.slice (some ⟨W.heap.size, 0, none⟩) S.size (grownCap W S.size 0 5)) (W.drew.alloc (.cells (bytesRow S (grownCap W S.size 0 5)) 5 ((bytesRow S (grownCap W S.size 0 5)).size, (bytesRow S (grownCap W S.size 0 5)).size + 1))) :=
    fun W => run_bytes_of_string W 9 45 5 S Tryz.underlying9 Tryz.underlying45 Tryz.underlying5
  have hbi : (b : Int) < (n : Int) := by omega
  have hqi : (q : Int) < 32 := by omega
  have HT := Lib.hid ht
  have hb1 := ((Below.refl w.heap.size w).alloc (Nat.le_refl _) (.cells (bytesRow S (grownCap w 32 0 5)) 5 ((bytesRow S (grownCap w 32 0 5)).size, (bytesRow S (grownCap w 32 0 5)).size + 1))).drew
  have HB1 := Lib.hid hb1
  have HROW := Lib.hid (by have := bRowT_bytes w 5 S (grownCap w 32 0 5); rw [hSs] at this; exact this.drew)
  obtain ⟨cp, hcp⟩ : ∃ x, grownCap w 32 0 5 = x := ⟨_, rfl⟩
  have hcp32 : 32 ≤ cp := by rw [← hcp]; exact grownCap_ge _ _ _ _
  have HCP := Lib.hid hcp
  clear ht hS hb1 hcp
  go_enter Tryz.func84, Tryz.ntmps84
  go_upto_region 1 with fail
  obtain ⟨g, hg⟩ : ∃ g, w.heap.size = g := ⟨_, rfl⟩
  have HT1 := Lib.hid (HT.out.below HB1.out)
  rw [hg] at HB1 hB
  rw [hg] at HROW
  rw [hg]
  have HGE := Lib.hid hg
  clear hg c1 c2 cvt
  generalize (w.alloc (.cells (bytesRow S (grownCap w 32 0 5)) 5 ((bytesRow S (grownCap w 32 0 5)).size, (bytesRow S (grownCap w 32 0 5)).size + 1))).drew = W1 at *
  have c3 := HROW.out.cell (i := q) hq
  have f3 := HROW.out.frozen (i := q) hq
  have HR2 := Lib.hid (HROW.out.set (i := q) v (y := v.toNat) rfl)
  have HB2 := Lib.hid (HB1.out.setCell (p := ⟨g, q, none⟩) (Nat.le_refl _) (.int .u8 (v.toNat : Int)))
  have HT2 := Lib.hid (HT.out.below (by rw [HGE.out]; exact HB2.out))
  go_upto_region 2 with fail
  clear c3 f3
  generalize W1.setCell ⟨g, q, none⟩ (.int .u8 (v.toNat : Int)) = W2 at *
  have k1 := HT2.out.ptr
  have hz2 : g ≤ W2.heap.size := by have := HB2.out.size; have := HGE.out; omega
  have hsz : usum (upd (upd (byteAt S) q v) 1 0) 32 = usum (upd (upd (V b) q v) 1 0) 32 := usum_same 32 (fun i hi => by
    unfold upd
    split
    · rfl
    · split
      · rfl
      · exact HS.out i hi)
  have hsU : bstr 32 (sealU (upd (byteAt S) q v)) = bstr 32 (sealU (upd (V b) q v)) := bsT_congr (fun i hi => by
    unfold sealU
    rw [hsz]
    unfold upd
    repeat' split
    all_goals first | rfl | exact HS.out i hi)
  have HSU := Lib.hid hsU
  clear hsz hsU
  have HSE := Lib.hid (l18Seal_any g (grownCap w 32 0 5) _ W2.drew HR2.out.drew)
  rw [HSU.out] at HSE
  go_region_law (first | (go_simp; go_at_call 81; refine HSE.out.mono ?_; rintro e w3 ⟨rfl, hr3, hg3⟩; have hb3 := HB2.out.drew.trans (below_only hg3 (Nat.le_refl _) hz2); have ht3 := HT.out.below (by rw [HGE.out]; exact hb3); have q1 := ht3.ptr; obtain ⟨q2, q3, _⟩ := ht3.cell hb; have HT3 := Lib.hid ht3; have HB3 := Lib.hid hb3; clear hr3 hg3 hb3 ht3))
  all_goals
    go_wp2_with fail
    go_end0
    refine ⟨rfl, ?_, ?_⟩
    · exact HT3.out.set hb _
    · exact ((by have := HB3.out; rw [← HGE.out] at this; exact this.mono (by have := HGE.out; omega) : Below B w _)).setCell (by first | exact hBg | omega) _
theorem andnot_bit (x : UInt8) (k : Nat) : bits .andNot .u8 (x.toNat : Int) ((2 : Int) ^ (k % 8) % 256) = ((x &&& (255 - bitU k)).toNat : Int) := by
  rw [bit_int, u8_andNot_nat _ _ (UInt8.toNat_lt _) (UInt8.toNat_lt _), UInt8.toNat_and, UInt8.toNat_sub_of_le]
  · rfl
  · have := (bitU k).toNat_lt
    rw [UInt8.le_iff_toNat_le]
    show (bitU k).toNat ≤ 255
    omega
set_option maxHeartbeats 4000000 in
theorem smark_any {w : World} {p n B ga c k : Nat} {V : Nat → Nat → UInt8} (ht : SpW w p n B ga c V) (hk : k < n) (hn : n ≤ 128) (hB : B ≤ w.heap.size) :
    Calls Tryz.prog 97 #[.pointer (some ⟨p, 0, none⟩), .int .i64 (k : Int), .bool false] w fun e w' => e = .returned (.tuple #[]) ∧ SpW w' p n B ga c (setB V 0 (sealU (rmk k (V 0)))) ∧ Below B w w' := by
  have c1 := ht.ptr
  obtain ⟨c2, _, _, _⟩ := ht.cell (show 0 < n by omega)
  obtain ⟨q, hq⟩ : ∃ q, 12 + k / 8 = q := ⟨_, rfl⟩
  have hq32 : q < 32 := by omega
  have e1 : (12 : Int) + (k : Int) / 8 = (q : Int) := by omega
  have eqw : IntKind.i64.wrap (q : Int) = (q : Int) := by rw [IntKind.wrap_i64]; omega
  have e2 : (2 : Int) ^ (k % 8) ≤ 128 := by
    have : 2 ^ (k % 8) ≤ 2 ^ 7 := Nat.pow_le_pow_right (by omega) (by omega)
    exact_mod_cast this
  obtain ⟨S, hS⟩ : ∃ S, bstr 32 (V 0) = S := ⟨_, rfl⟩
  have hSs : S.size = 32 := by rw [← hS]; exact bsT_size _ _
  rw [hS] at c2
  have hbq : byteAt S q = V 0 q := by rw [← hS]; exact bsT_at hq32
  have hqS : q < S.size := by omega
  have hg := byteAt_get S q hqS
  have hszS : ((S.size : Nat) : Int) = 32 := by omega
  have hqi : (q : Int) < 32 := by omega
  have hor := andnot_bit (V 0 q) k
  obtain ⟨v, hv⟩ : ∃ v, V 0 q &&& (255 - bitU k) = v := ⟨_, rfl⟩
  rw [hv] at hor
  rw [hbq] at hg
  have HS := Lib.hid (set_any (v := v) ht (show 0 < n by omega) hq32 hn hB)
  have HR := Lib.hid (show putB V 0 q v = setB V 0 (sealU (rmk k (V 0))) by unfold putB rmk; rw [hq, hv])
  have hn0 : (0 : Int) < (n : Int) := by omega
  clear ht hS hbq hv hq
  go_enter Tryz.func97, Tryz.ntmps97
  go_wp2_with (go_at_call 84; refine HS.out.mono ?_; rintro e w2 ⟨rfl, hw2, hb2⟩)
  go_end0
  rw [← HR.out]
  exact ⟨rfl, hw2, hb2⟩
end Go.Proofs.YtiefcgmghkkbmaaGreatDoor
namespace Go.Proofs.YtiefcgmghkkbmaaGreatDoor
open Go Go.ChangeShapes Go.WideShapes Go.ChangeAt Go.RowKit lib
set_option linter.unusedVariables false
set_option linter.unusedSimpArgs false
set_option maxRecDepth 100000
set_option maxHeartbeats 4000000 in
theorem drop_any {w : World} {p n B ga c k : Nat} {V : Nat → Nat → UInt8} (ht : SpW w p n B ga c V) (hk : k < n) (hn : n ≤ 128) (hB : B ≤ w.heap.size) :
    Calls Tryz.prog 53 #[.pointer (some ⟨p, 0, none⟩), .int .i64 (k : Int)] w fun e w' => e = .returned (.tuple #[]) ∧ SpW w' p n B ga c (dropB V k) ∧ Below B w w' := by
  have HM := Lib.hid (smark_any ht hk hn hB)
  obtain ⟨_, _, _, hBg⟩ := ht.cell hk
  have hki : (k : Int) < (n : Int) := by omega
  clear ht
  go_enter Tryz.func53, Tryz.ntmps53
  go_upto_region 1 with (go_at_call 97; refine HM.out.mono ?_; rintro e w2 ⟨rfl, hw2, hb2⟩)
  have HW2 := Lib.hid hw2
  have HB2 := Lib.hid hb2
  have k1 := hw2.ptr
  have hz2 : B ≤ w2.heap.size := by have := hb2.size; omega
  clear hw2 hb2
  have HZ := Lib.hid (l01Zeros_any 32 w2.drew (by omega) (by omega))
  go_region_law (first | (go_simp; go_at_call 82; refine HZ.out.mono ?_; rintro e w3 ⟨rfl, hb3⟩; have ht3 := HW2.out.below ((Below.refl _ _).drew.trans hb3); have q1 := ht3.ptr; obtain ⟨q2, q3, _⟩ := ht3.cell hk; have HT3 := Lib.hid ht3; have HB3 := Lib.hid (HB2.out.drew.trans (hb3.mono hz2)); clear ht3 hb3))
  all_goals
    go_wp2_with fail
    go_end0
    refine ⟨rfl, ?_, HB3.out.setCell (by first | exact hBg | omega) _⟩
    exact HT3.out.set hk _
theorem lkLen4i {u : Nat → Nat → UInt8} {b : Nat} {l : List Nat} (h : Lnk (nx4 u) b l) : (lkL (nx4 u) (intOf (.int .i64 (b : Int))).toNat).length = l.length := by
  show (lkL (nx4 u) b).length = _
  rw [lkL_eq h]
set_option maxHeartbeats 8000000 in
theorem clear_any {w : World} {p n B ga c b : Nat} {V : Nat → Nat → UInt8} {l : List Nat} (ht : SpW w p n B ga c V) (hb : b < n) (hn : n ≤ 128) (hB : B ≤ w.heap.size) (hl : Lnk (nx4 V) (V b 14).toNat l) (hln : ∀ x ∈ l, x < n ∧ x ≠ 0) (hnd : l.Nodup) :
    Calls Tryz.prog 51 #[.pointer (some ⟨p, 0, none⟩), .int .i64 (b : Int)] w fun e w' => e = .returned (.tuple #[]) ∧ SpW w' p n B ga c (clrS V b l) ∧ Below B w w' := by
  have c1 := ht.ptr
  obtain ⟨c2, _, _, _⟩ := ht.cell hb
  obtain ⟨S, hS⟩ : ∃ S, bstr 32 (V b) = S := ⟨_, rfl⟩
  have hSs : S.size = 32 := by rw [← hS]; exact bsT_size _ _
  rw [hS] at c2
  have hb14 : byteAt S 14 = V b 14 := by rw [← hS]; exact bsT_at (by omega)
  have hqS : 14 < S.size := by omega
  have hg := byteAt_get S 14 hqS
  rw [hb14] at hg
  have hszS : ((S.size : Nat) : Int) = 32 := by omega
  obtain ⟨b0, hb0⟩ : ∃ x, (V b 14).toNat = x := ⟨_, rfl⟩
  have hb1 : b0 < 256 := by rw [← hb0]; exact UInt8.toNat_lt _
  have eqb : IntKind.i64.wrap (b0 : Int) = (b0 : Int) := by rw [IntKind.wrap_i64]; omega
  rw [hb0] at hl
  have hbi : (b : Int) < (n : Int) := by omega
  have HT := Lib.hid ht
  have HL := Lib.hid hl
  have HLN := Lib.hid hln
  have HND := Lib.hid hnd
  clear ht hS hb14 hl hln hnd
  go_enter Tryz.func51, Tryz.ntmps51
  go_wp2_with fail
  go_loopw [4] (fun s4 wr => ∃ (d : Nat) (D E : List Nat), l = D ++ E ∧ Lnk (nx4 V) d E ∧ d < 256 ∧ s4 = .int .i64 (d : Int) ∧ SpW wr p n B ga c (dropL V D) ∧ Below B w wr) (fun s _ => (lkL (nx4 V) (intOf s).toNat).length)
  case atStart => exact ⟨b0, [], l, rfl, HL.out, hb1, rfl, HT.out, Below.refl _ _⟩
  case round =>
    obtain ⟨d, D, E, hDE, hE, hd, rfl, hw, hbw⟩ := hrel
    have HW := Lib.hid hw
    have HB := Lib.hid hbw
    have hzr : B ≤ wr.heap.size := by have := hbw.size; omega
    by_cases h0 : d = 0
    · subst h0
      have hE0 := hE.zero
      subst hE0
      rw [List.append_nil] at hDE
      have HDE := Lib.hid hDE
      clear hE hbw hw c1 c2 hDE
      have HS1 := Lib.hid (set_any (v := 0) (q := 14) HW.out hb (by omega) hn hzr)
      go_upto_region 6 with (go_at_call 84; refine HS1.out.mono ?_; rintro e w2 ⟨rfl, hw2, hb2⟩)
      have HB2 := Lib.hid (HB.out.trans hb2)
      have hz2 : B ≤ w2.heap.size := by have := hb2.size; omega
      have HS2 := Lib.hid (set_any (v := 0) (q := 12) hw2 hb (by omega) hn hz2)
      clear hw2 hb2
      go_upto_region 7 with (go_at_call 84; refine HS2.out.mono ?_; rintro e w3 ⟨rfl, hw3, hb3⟩)
      have HB3 := Lib.hid (HB2.out.trans hb3)
      have hz3 : B ≤ w3.heap.size := by have := hb3.size; omega
      have HS3 := Lib.hid (set_any (v := 0) (q := 13) hw3 hb (by omega) hn hz3)
      clear hw3 hb3
      go_wp2_with (go_at_call 84; refine HS3.out.mono ?_; rintro e w4 ⟨rfl, hw4, hb4⟩)
      go_end0
      refine ⟨rfl, ?_, HB3.out.trans hb4⟩
      unfold clrS
      rw [HDE.out]
      exact hw4
    · obtain ⟨E', rfl, h5⟩ := hE.step h0
      have hdm : d ∈ l := by rw [hDE]; simp
      obtain ⟨hdn, _⟩ := HLN.out d hdm
      have hdD : d ∉ D := fun q => by
        have h := HND.out
        rw [hDE, List.nodup_append] at h
        exact h.2.2 d q d List.mem_cons_self rfl
      have t0 : ((d : Int) != 0) = true := by simp; omega
      have hVd : dropL V D d = V d := dropL_other D hdD h0
      have k1 := hw.ptr
      obtain ⟨k2, _, _, _⟩ := hw.cell hdn
      rw [hVd] at k2
      obtain ⟨Sd, hSd⟩ : ∃ S, bstr 32 (V d) = S := ⟨_, rfl⟩
      have hSds : Sd.size = 32 := by rw [← hSd]; exact bsT_size _ _
      rw [hSd] at k2
      have hb4' : byteAt Sd 4 = V d 4 := by rw [← hSd]; exact bsT_at (by omega)
      have hq4 : 4 < Sd.size := by omega
      have hg4 := byteAt_get Sd 4 hq4
      rw [hb4'] at hg4
      have hszd : ((Sd.size : Nat) : Int) = 32 := by omega
      obtain ⟨x4, hx4⟩ : ∃ x, (V d 4).toNat = x := ⟨_, rfl⟩
      have b4 : x4 < 256 := by rw [← hx4]; exact UInt8.toNat_lt _
      have eq4 : IntKind.i64.wrap (x4 : Int) = (x4 : Int) := by rw [IntKind.wrap_i64]; omega
      have hnx : nx4 V d = x4 := hx4
      rw [hnx] at h5
      have hdi : (d : Int) < (n : Int) := by omega
      have HDR := Lib.hid (drop_any hw hdn hn hzr)
      have HH := Lib.hid hE
      have H5 := Lib.hid h5
      have HDE := Lib.hid hDE
      clear hE h5 hDE hbw hw hVd hSd hb4' hnx c1 c2
      go_wp2_with (go_at_call 53; refine HDR.out.mono ?_; rintro e w2 ⟨rfl, hw2, hb2⟩)
      go_roundw
      case rel => exact ⟨x4, D ++ [d], E', by rw [HDE.out]; simp, H5.out, b4, by go_num, by rw [dropL_snoc]; exact hw2, HB.out.trans hb2⟩
      case measure =>
        show (lkL (nx4 V) x4).length < (lkL (nx4 V) d).length
        rw [lkL_eq HH.out, lkL_eq H5.out, List.length_cons]
        omega
end Go.Proofs.YtiefcgmghkkbmaaGreatDoor
namespace Go.Proofs.YtiefcgmghkkbmaaGreatDoor
open Go Go.ChangeShapes Go.WideShapes Go.ChangeAt Go.RowKit lib
set_option linter.unusedVariables false
set_option linter.unusedSimpArgs false
set_option maxRecDepth 100000
/-- the owner of the link to an entry, and the link's place -/
def ownL (e : Nat) : List Nat → Nat × Nat → Nat × Nat
  | [], r => r
  | x :: l, r => if x = e then r else ownL e l (x, 2)
theorem tLen_congr {u v : Nat → UInt8} : ∀ m, (∀ i, i < m → u i = v i) → tLen u m = tLen v m
  | 0, _ => rfl
  | m + 1, h => by
    unfold tLen
    rw [h m (by omega), tLen_congr m (fun i hi => h i (by omega))]
theorem tnm_congr {x y : Nat → UInt8} (h : ∀ i, i < 12 → x i = y i) : tnm x = tnm y := by
  have hv : ∀ i, i < 8 → tV x i = tV y i := fun i hi => h (4 + i) (by omega)
  have hn : tN x = tN y := tLen_congr 8 hv
  unfold tnm
  rw [hn]
  exact bsT_congr (fun i hi => hv i (by have := tN_le y; omega))
set_option maxHeartbeats 16000000 in
theorem unlink_any {w : World} {p n B ga c b d o a : Nat} {V : Nat → Nat → UInt8} {R0 : List Nat} {nm : ByteArray} (ht : SpW w p n B ga c V) (hd : d < n) (hb : b < n) (hn : n ≤ 128) (hB : B ≤ w.heap.size) (hnm : tnm (V b) = nm) (hnn : NameS nm) (hl : Lnk (nx2 V) (V d (tTab d + tHash nm)).toNat R0) (hln : ∀ x ∈ R0, x < n) (hbR : b ∈ R0) (hown : ownL b R0 (d, tTab d + tHash nm) = (o, a)) :
    Calls Tryz.prog 52 #[.pointer (some ⟨p, 0, none⟩), .int .i64 (d : Int), .int .i64 (b : Int)] w fun e w' => e = .returned (.tuple #[]) ∧ SpW w' p n B ga c (putB V o a (V b 2)) ∧ Below B w w' := by
  have c1 := ht.ptr
  obtain ⟨c2, _, _, _⟩ := ht.cell hb
  have hT := tTab_le d
  have hH := tHash_lt nm
  have HTB := Lib.hid (fun W => specTable_any d W)
  have HHO := Lib.hid (fun W => specHash_any nm hnn W)
  obtain ⟨t, ht'⟩ : ∃ t, tTab d = t := ⟨_, rfl⟩
  obtain ⟨h, hh'⟩ : ∃ h, tHash nm = h := ⟨_, rfl⟩
  rw [ht'] at HTB hT hl hown
  rw [hh'] at HHO hH hl hown
  obtain ⟨q, hqe⟩ : ∃ q, t + h = q := ⟨_, rfl⟩
  have hq32 : q < 32 := by omega
  rw [hqe] at hl hown
  have eq1 : (t : Int) + (h : Int) = (q : Int) := by omega
  have eqw : IntKind.i64.wrap (q : Int) = (q : Int) := by rw [IntKind.wrap_i64]; omega
  obtain ⟨S, hS⟩ : ∃ S, bstr 32 (V b) = S := ⟨_, rfl⟩
  have hSs : S.size = 32 := by rw [← hS]; exact bsT_size _ _
  rw [hS] at c2
  have hnS : tnmS (byteAt S) = nm := by
    have h1 : tnm (byteAt S) = tnm (V b) := tnm_congr (fun i hi => by rw [← hS]; exact bsT_at (by omega))
    rw [tnmS_ok (by rw [h1, hnm]; exact hnn), h1, hnm]
  have HNA := Lib.hid (fun W => specName_any S hSs W)
  rw [hnS] at HNA
  have hb2' : byteAt S 2 = V b 2 := by rw [← hS]; exact bsT_at (by omega)
  have hq2 : 2 < S.size := by omega
  have hg2 := byteAt_get S 2 hq2
  rw [hb2'] at hg2
  have hszS : ((S.size : Nat) : Int) = 32 := by omega
  have hbi : (b : Int) < (n : Int) := by omega
  have HT := Lib.hid ht
  have HL := Lib.hid hl
  have HLN := Lib.hid hln
  have HBR := Lib.hid hbR
  have HOW := Lib.hid hown
  have HS := Lib.hid hS
  clear ht hS hl hln hbR hown hb2' hnS hnm hnn ht' hh' hqe
  go_enter Tryz.func52, Tryz.ntmps52
  go_wp2_with fail
  go_cut [7] (fun s7 wx => s7 = .int .i64 (q : Int) ∧ Below w.heap.size w wx)
  case first =>
    go_region_law (first
      | (go_simp; go_at_call 69; refine (HTB.out _).mono ?_; rintro e w' ⟨rfl, hw'⟩; rw [← hw']; clear hw' w')
      | (go_simp; go_at_call 70; refine (HHO.out _).mono ?_; rintro e w' ⟨rfl, hw'⟩; rw [← hw']; clear hw' w')
      | (go_simp; go_at_call 71; refine (HNA.out _).mono ?_; rintro e w3 ⟨rfl, hb3⟩; have HB3 := Lib.hid ((Below.refl w.heap.size w).drew.trans hb3); clear hb3))
    all_goals
      go_wp2_with fail
      go_meet
      exact ⟨rfl, HB3.out⟩
  case rest =>
    obtain ⟨rfl, hb2⟩ := hcut
    have HW := Lib.hid (HT.out.below hb2)
    have HB2 := Lib.hid (hb2.mono hB)
    have hz2 : B ≤ wc.heap.size := by have := hb2.size; omega
    clear c1 c2 hb2
    go_wp2_with fail
    go_loopw [6, 7] (fun s6 s7 wr => ∃ (k j : Nat) (R : List Nat), k < n ∧ j < 32 ∧ s6 = .int .i64 (k : Int) ∧ s7 = .int .i64 (j : Int) ∧ Lnk (nx2 V) (V k j).toNat R ∧ (∀ x ∈ R, x < n) ∧ b ∈ R ∧ ownL b R (k, j) = (o, a) ∧ wr = wc) (fun s s2 _ => (lkL (nx2 V) (V (intOf s).toNat (intOf s2).toNat).toNat).length)
    case atStart => exact ⟨d, q, R0, hd, hq32, rfl, rfl, HL.out, HLN.out, HBR.out, HOW.out, rfl⟩
    case round =>
      obtain ⟨k, j, R, hk, hj, rfl, rfl, hR, hRn, hbR, how, rfl⟩ := hrel
      have k1 := HW.out.ptr
      obtain ⟨k2, _, _, _⟩ := HW.out.cell hk
      obtain ⟨X, hX⟩ : ∃ S, bstr 32 (V k) = S := ⟨_, rfl⟩
      have hXs : X.size = 32 := by rw [← hX]; exact bsT_size _ _
      rw [hX] at k2
      have hXj : byteAt X j = V k j := by rw [← hX]; exact bsT_at hj
      have hjX : j < X.size := by omega
      have hgj := byteAt_get X j hjX
      rw [hXj] at hgj
      have hszX : ((X.size : Nat) : Int) = 32 := by omega
      obtain ⟨y, hy⟩ : ∃ y, (V k j).toNat = y := ⟨_, rfl⟩
      have hy2 : y < 256 := by rw [← hy]; exact UInt8.toNat_lt _
      have eqy : IntKind.i64.wrap (y : Int) = (y : Int) := by rw [IntKind.wrap_i64]; omega
      have hki : (k : Int) < (n : Int) := by omega
      have hji : (j : Int) < 32 := by omega
      have hR' := hR
      rw [hy] at hR
      have hR0 : y ≠ 0 := fun e => by
        rw [e] at hR
        have := hR.zero
        rw [this] at hbR
        cases hbR
      obtain ⟨R', rfl, h5⟩ := hR.step hR0
      by_cases hyb : y = b
      · have t1 : ((y : Int) != (b : Int)) = false := by simp; omega
        have how2 : (k, j) = (o, a) := by rw [← how, ownL, if_pos hyb]
        obtain ⟨c3, _, _, _⟩ := HW.out.cell hb
        rw [HS.out] at c3
        have HSE := Lib.hid (set_any (v := V b 2) HW.out hk hj hn hz2)
        have HOK := Lib.hid how2
        clear hR hR' h5 how how2 hX hXj hyb hbR hRn
        go_wp2_with (go_at_call 84; refine HSE.out.mono ?_; rintro e w4 ⟨rfl, hw4, hb4⟩)
        go_end0
        have e1 := HOK.out
        simp only [Prod.mk.injEq] at e1
        obtain ⟨rfl, rfl⟩ := e1
        exact ⟨rfl, hw4, HB2.out.trans hb4⟩
      · have t1 : ((y : Int) != (b : Int)) = true := by simp; omega
        have hbR' : b ∈ R' := by
          rcases List.mem_cons.1 hbR with q1 | q1
          · exact absurd q1.symm hyb
          · exact q1
        have hyn := hRn y List.mem_cons_self
        have how2 : ownL b R' (y, 2) = (o, a) := by rw [← how, ownL, if_neg hyb]
        have HG := Lib.hid (show Lnk (nx2 V) (V y 2).toNat R' ∧ (∀ x ∈ R', x < n) ∧ b ∈ R' ∧ ownL b R' (y, 2) = (o, a) from ⟨h5, fun x hx => hRn x (List.mem_cons_of_mem _ hx), hbR', how2⟩)
        have HRR := Lib.hid hR'
        clear hR hR' h5 how how2 hX hXj hyb hbR hRn hbR'
        go_wp2_with fail
        go_roundw
        case rel => exact ⟨y, 2, R', hyn, by omega, by go_num, rfl, HG.out.1, HG.out.2.1, HG.out.2.2.1, HG.out.2.2.2, trivial⟩
        case measure =>
          show (lkL (nx2 V) (V y 2).toNat).length < (lkL (nx2 V) (V k j).toNat).length
          rw [lkL_eq HRR.out, lkL_eq HG.out.1, List.length_cons]
          omega
end Go.Proofs.YtiefcgmghkkbmaaGreatDoor
namespace Go.Proofs.YtiefcgmghkkbmaaGreatDoor
open Go Go.ChangeShapes Go.WideShapes Go.ChangeAt Go.RowKit lib
set_option linter.unusedVariables false
set_option linter.unusedSimpArgs false
set_option maxRecDepth 100000
theorem brow_clear {e g : Nat} : ∀ (m o : Nat) (w : World) (x : Nat → UInt8), BRow w e g 32 x → o + m ≤ 32 →
    BRow (w.setCells g o (List.replicate m (.int .u8 0))) e g 32 (fun i => if o ≤ i ∧ i < o + m then 0 else x i) ∧ w.grownBy (w.setCells g o (List.replicate m (.int .u8 0))) (some g)
  | 0, o, w, x, h, _ => by
    refine ⟨?_, only_refl _ _⟩
    have e1 : (fun i => if o ≤ i ∧ i < o + 0 then (0 : UInt8) else x i) = x := by
      funext i
      rw [if_neg (by omega)]
    rw [e1]
    exact h
  | m + 1, o, w, x, h, hm => by
    have h1 := h.set (i := o) 0 (y := 0) rfl
    obtain ⟨h2, h3⟩ := brow_clear m (o + 1) _ _ h1 (by omega)
    refine ⟨?_, only_trans (only_setCell (p := ⟨g, o, none⟩) (only_refl _ _) (.inl rfl) _) h3⟩
    have e1 : (fun i => if o + 1 ≤ i ∧ i < o + 1 + m then (0 : UInt8) else upd x o 0 i) = fun i => if o ≤ i ∧ i < o + (m + 1) then 0 else x i := by
      funext i
      unfold upd
      by_cases h1 : i = o
      · subst h1
        rw [if_neg (by omega), if_pos rfl, if_pos (by omega)]
      · by_cases h2 : o + 1 ≤ i ∧ i < o + 1 + m
        · rw [if_pos h2, if_pos (by omega)]
        · rw [if_neg h2, if_neg h1, if_neg (by omega)]
    rw [← e1]
    exact h2
theorem zeroU8 (w : World) : (zeroValue 5).run Tryz.prog w = .ok (.int .u8 0) w := by rfl
theorem andnot_bitI (x : UInt8) (k : Nat) : bits .andNot .u8 (x.toNat : Int) ((2 : Int) ^ (k % 8) % 256) = ((x &&& (255 - bitU k)).toNat : Int) := by
  rw [bit_int, u8_andNot_nat _ _ (UInt8.toNat_lt _) (UInt8.toNat_lt _), UInt8.toNat_and, UInt8.toNat_sub_of_le]
  · rfl
  · have := (bitU k).toNat_lt
    rw [UInt8.le_iff_toNat_le]
    show (bitU k).toNat ≤ 255
    omega
theorem mark_false (gp gr n B k : Nat) (x : Int) (bl cp : Nat → Nat) (u : Nat → Nat → UInt8) (w : World) (hx : x = k) (ht : TreeW w gp gr n B bl cp u) (hk : k < n) (hn : n ≤ 128) :
    Calls Tryz.prog 90 #[.pointer (some ⟨gp, 0, none⟩), .int .i64 x, .bool false] w fun e w' => e = .returned (.tuple #[]) ∧ TreeW w' gp gr n B bl cp (setB u 0 (sealU (rmk k (u 0)))) ∧ w.grownBy w' (some (bl 0)) := by
  subst hx
  have HT := Lib.hid ht
  obtain ⟨⟨cap, h1⟩, ⟨cs, h2, h3, h4⟩, h5, h6, h7, h8⟩ := ht
  have c1 : w.cell? ⟨gp, 0, none⟩ = some (.slice (some ⟨gr, 0, none⟩) n cap) := h1.cell 0
  have c2 : w.cell? ⟨gr, 0, none⟩ = some (.slice (some ⟨bl 0, 0, none⟩) 32 (cp 0)) := (h2.cell 0).trans (h4 0 (by omega))
  have hq : k / 8 < 16 := by omega
  obtain ⟨q, hqq⟩ : ∃ q, q = 12 + k / 8 := ⟨_, rfl⟩
  have h0 := (h5 0 (by omega)).1
  have c3 := h0.cell (i := q) (by omega)
  have f3 := h0.frozen (i := q) (by omega)
  have e1 : (12 : Int) + (k : Int) / 8 = (q : Int) := by omega
  have e2 : (2 : Int) ^ (k % 8) ≤ 128 := by
    have : 2 ^ (k % 8) ≤ 2 ^ 7 := Nat.pow_le_pow_right (by omega) (by omega)
    exact_mod_cast this
  have hq32 : q < 32 := by omega
  have hr := h0.set (i := q) (u 0 q &&& (255 - bitU k)) (andnot_bitI _ _)
  have HQ := Lib.hid hqq
  clear h1 h2 h3 h4 h5 h6 h7 h8 hqq
  go_enter Tryz.func90, Tryz.ntmps90
  go_wp2_with fail
  refine (seal_any (bl 0) (cp 0) _ _ hr).mono ?_
  rintro e w1 ⟨rfl, hr1, hg1⟩
  go_wp2
  go_end0
  have hg : w.grownBy w1 (some (bl 0)) := only_trans (only_setCell (only_refl _ _) (.inl rfl) _) hg1
  refine ⟨rfl, ?_, hg⟩
  have h := HT.out.set (j := 0) (by omega) hr1 hg
  unfold setB rmk
  rw [← HQ.out]
  exact h
theorem brow_same {w : World} {e g : Nat} {x y : Nat → UInt8} (h : BRow w e g 32 x) (hx : ∀ i, i < 32 → x i = y i) : BRow w e g 32 y := by
  obtain ⟨cs, h1, h2, h3⟩ := h
  exact ⟨cs, h1, h2, fun i hi => by rw [h3 i hi, hx i hi]⟩
theorem dropB_swap (V : Nat → Nat → UInt8) {y : Nat} (hy : y ≠ 0) : setB (setB V y fun _ => 0) 0 (sealU (rmk y ((setB V y fun _ => 0) 0))) = dropB V y := by
  funext i
  unfold dropB
  rw [setB_other (V := V) (fun _ => 0) (Ne.symm hy)]
  by_cases h0 : i = 0
  · subst h0
    rw [setB_same, setB_other _ (Ne.symm hy), setB_same]
  · rw [setB_other _ h0]
    by_cases h1 : i = y
    · subst h1
      rw [setB_same, setB_same]
    · rw [setB_other _ h1, setB_other _ h1, setB_other _ h0]
theorem TreD.setB {w w' : World} {gp gr n B : Nat} {bl cp : Nat → Nat} {u : Nat → Nat → UInt8} (h : TreD w gp gr n B bl cp u) {j : Nat} (hj : j < n) {x : Nat → UInt8} (hx : BRow w' 5 (bl j) 32 x) (hg : w.grownBy w' (some (bl j))) : TreD w' gp gr n B bl cp (Go.Proofs.YtiefcgmghkkbmaaGreatDoor.setB u j x) := ⟨h.1.set hj hx hg, h.2⟩
set_option maxHeartbeats 8000000 in
theorem release_any {w : World} {gp gr n B m c : Nat} {bl cp : Nat → Nat} {u : Nat → Nat → UInt8} {A : Option Addr} {K : List Nat} (ht : TreD w gp gr n B bl cp u) (hn : n ≤ 128) (hB : B ≤ w.heap.size) (hm : m = K.length) (hm2 : m ≤ 1000) (hK : ∀ k ∈ K, k < n ∧ k ≠ 0) (hs : w.ownsRow B 2 1 (.slice A m c) m (K.map fun (k : Nat) => Value.int .i64 (k : Int))) :
    Calls Tryz.prog 59 #[.pointer (some ⟨gp, 0, none⟩), .slice A m c] w fun e w' => e = .returned (.tuple #[]) ∧ TreD w' gp gr n B bl cp (dropL u K) ∧ Below B w w' := by
  have HT := Lib.hid ht
  have HM := Lib.hid hm
  have HK := Lib.hid hK
  have HS := Lib.hid hs
  clear ht hm hK hs
  go_enter Tryz.func59, Tryz.ntmps59
  go_wp2_with fail
  go_loopw [8] (fun s8 wr => ∃ k : Nat, k ≤ m ∧ s8 = .int .i64 (k : Int) ∧ TreD wr gp gr n B bl cp (dropL u (K.take k)) ∧ wr.ownsRow B 2 1 (.slice A m c) m (K.map fun (k : Nat) => Value.int .i64 (k : Int)) ∧ Below B w wr) (fun s _ => m - (intOf s).toNat)
  case atStart => exact ⟨0, by omega, rfl, HT.out, HS.out, Below.refl _ _⟩
  case round =>
    obtain ⟨k, hk, rfl, ht, ho, hb⟩ := hrel
    have HTR := Lib.hid ht
    have HO := Lib.hid ho
    have HB := Lib.hid hb
    clear ht ho hb
    by_cases hlt : k < m
    · have hki : (k : Int) < (m : Int) := by omega
      have hkK : k < K.length := by rw [← HM.out]; exact hlt
      obtain ⟨y, hy⟩ : ∃ y, K[k] = y := ⟨_, rfl⟩
      obtain ⟨hyn, hy0⟩ := HK.out y (by rw [← hy]; exact List.getElem_mem hkK)
      have hsl := own_sl HO.out
      obtain ⟨ba, oa, hA, hx1, hca⟩ := hsl k (by omega)
      subst hA
      dsimp only at hca
      have hca2 : wr.cell? ⟨ba, oa + k, none⟩ = some (.int .i64 (y : Int)) := by
        rw [hca]
        simp [hkK, hy]
      clear hca hx1 hsl
      have hyi : (y : Int) < (n : Int) := by omega
      obtain ⟨cap, k1⟩ := HTR.out.ptr
      have k2 := HTR.out.blk hyn
      have hrow := HTR.out.row hyn
      obtain ⟨gb, hgb⟩ : ∃ g, bl y = g := ⟨_, rfl⟩
      have HGB := Lib.hid hgb
      rw [hgb] at hrow k2
      have hcl : ∀ ty, (Builtin.clear_ #[45] ty #[.slice (some ⟨gb, 0, none⟩) 32 (cp y)]).run Tryz.prog wr = .ok (.tuple #[]) (wr.setCells gb 0 (List.replicate 32 (.int .u8 0))) := fun ty =>
        Lib.run_clear_slice wr 45 5 ty _ Tryz.underlying45 zeroU8 rfl rfl gb 0 32 (cp y) (by omega) (fun j hj => by rw [Nat.zero_add, hrow.cell hj]; rfl) (fun j hj => by rw [Nat.zero_add]; exact hrow.frozen hj)
      obtain ⟨z1, z2⟩ := brow_clear 32 0 wr _ hrow (by omega)
      have hz0 := brow_same (y := fun _ => 0) z1 (fun i hi => if_pos (by omega))
      have HTC := Lib.hid (HTR.out.setB hyn (x := fun _ => 0) (by rw [hgb]; exact hz0) (by rw [hgb]; exact z2))
      have hBg : B ≤ gb := by rw [← hgb]; exact (HTR.out.1.2.2.1 y hyn).2
      have HOC := Lib.hid (HO.out.kept z2 (.inr (fun e => own_neB HO.out hrow (by decide) e.symm)))
      have hzr : B ≤ wr.heap.size := by have := HB.out.size; omega
      have HBC := Lib.hid (HB.out.trans (below_only z2 hBg hzr))
      obtain ⟨zs, hzs⟩ : ∃ zs, List.replicate 32 (Value.int .u8 0) = zs := ⟨_, rfl⟩
      rw [hzs] at hcl HTC HOC HBC
      clear z1 z2 hz0 hrow hzs
      go_upto_region 4 with fail
      clear hcl k1 k2 hca2
      generalize wr.setCells gb 0 zs = W1 at *
      have HMK := Lib.hid (mark_false gp gr n B y (y : Int) bl cp _ W1 rfl HTC.out.1 hyn hn)
      have hz1 : B ≤ W1.heap.size := by have := HBC.out.size; omega
      go_wp2_with (go_at_call 90; refine HMK.out.mono ?_; rintro e w2 ⟨rfl, ht2, hg2⟩)
      rw [dropB_swap _ hy0] at ht2
      have h0n : 0 < n := by omega
      have hrow0 := HTC.out.row h0n
      have hB0 : B ≤ bl 0 := (HTC.out.1.2.2.1 0 h0n).2
      go_roundw
      case rel =>
        refine ⟨k + 1, by omega, by go_num, ?_, HOC.out.kept hg2 (.inr (fun e => own_neB HOC.out hrow0 (by decide) e.symm)), HBC.out.trans (below_only hg2 hB0 hz1)⟩
        rw [List.take_succ_eq_append_getElem hkK, hy, dropL_snoc]
        exact ⟨ht2, HTC.out.2⟩
      case measure => simp [intOf]; omega
    · obtain rfl : k = m := by omega
      rw [List.take_of_length_le (by rw [HM.out]; exact Nat.le_refl _)] at HTR
      go_wp2_with fail
      go_end0
      exact ⟨rfl, HTR.out, HB.out⟩
end Go.Proofs.YtiefcgmghkkbmaaGreatDoor
namespace Go.Proofs.YtiefcgmghkkbmaaGreatDoor
open Go lib
set_option linter.unusedVariables false
set_option maxRecDepth 100000
theorem Lnk.congr {nx nx' : Nat → Nat} : ∀ {b : Nat} {l : List Nat}, Lnk nx b l → (∀ x ∈ l, nx x = nx' x) → Lnk nx' b l
  | _, _, .nil, _ => .nil
  | _, _, .cons h h1, hx => by
    refine .cons h ?_
    rw [← hx _ List.mem_cons_self]
    exact h1.congr (fun x hx' => hx x (List.mem_cons_of_mem _ hx'))
theorem EE.kind {n : Nat} {u : Nat → Nat → UInt8} {d x : Nat} (h : EE n u d x) : u x 0 = 2 ∨ u x 0 = 4 := by
  by_cases q : u x 0 = 4
  · exact .inr q
  · exact .inl (h.fil q).1
theorem EE.not3 {n : Nat} {u : Nat → Nat → UInt8} {d x : Nat} (h : EE n u d x) : u x 0 ≠ 3 := by
  rcases h.kind with q | q <;> rw [q] <;> decide
theorem DD.not3 {n : Nat} {u : Nat → Nat → UInt8} {d : Nat} (h : DD n u d) : u d 0 ≠ 3 := by
  rcases h.2.2 with ⟨_, q⟩ | ⟨_, q⟩ <;> rw [q] <;> decide
theorem del_look {n : Nat} {u : Nat → Nat → UInt8} {d : Nat} {nm : ByteArray} (hd : DD n u d) (hb : lookU u d nm ≠ 0) : ∃ l, Lnk (nx2 u) (u d (tTab d + tHash nm)).toNat l ∧ (∀ x ∈ l, EE n u d x) ∧ lookU u d nm ∈ l ∧ tnm (u (lookU u d nm)) = nm := by
  obtain ⟨l, l1, _, l2⟩ := hd.chain (tHash_lt nm)
  refine ⟨l, l1, fun x hx => (l2 x hx).1, ?_⟩
  unfold lookU at hb ⊢
  rw [lkL_eq l1] at hb ⊢
  cases hf : l.find? fun x => decide (tnm (u x) = nm) with
  | none => rw [hf] at hb; exact absurd rfl hb
  | some x =>
    have h1 := List.find?_some hf
    exact ⟨List.mem_of_find?_eq_some hf, by simpa using h1⟩
theorem ownL_cases (e : Nat) : ∀ (l : List Nat) (d q : Nat), e ∈ l → ownL e l (d, q) = (d, q) ∨ ((ownL e l (d, q)).1 ∈ l ∧ (ownL e l (d, q)).1 ≠ e ∧ (ownL e l (d, q)).2 = 2)
  | x :: l, d, q, h => by
    by_cases hx : x = e
    · left; rw [ownL, if_pos hx]
    · right
      rw [ownL, if_neg hx]
      have he : e ∈ l := by
        rcases List.mem_cons.1 h with h | h
        · exact absurd h.symm hx
        · exact h
      rcases ownL_cases e l x 2 he with h1 | ⟨h1, h2, h3⟩
      · rw [h1]
        exact ⟨List.mem_cons_self, hx, rfl⟩
      · exact ⟨List.mem_cons_of_mem _ h1, h2, h3⟩
theorem file_parts {n : Nat} {u : Nat → Nat → UInt8} {d b : Nat} (hE : EE n u d b) (h2 : u b 0 = 2) : ∃ P, Lnk (nx4 u) (u b 14).toNat P ∧ P.length ≤ 256 ∧ (∀ x ∈ P, x < n ∧ x ≠ 0 ∧ u x 0 = 3) ∧ P.Nodup := by
  obtain ⟨_, l, l1, l2, l3, _⟩ := hE.fil (by rw [h2]; decide)
  refine ⟨l, l1, l2, fun x hx => ?_, ?_⟩
  · obtain ⟨i, hi, rfl⟩ := List.getElem_of_mem hx
    obtain ⟨a1, a2, _⟩ := l3 i hi
    exact ⟨a1, Lnk.ne l1 _ hx, a2.1⟩
  · rw [List.nodup_iff_pairwise_ne, List.pairwise_iff_getElem]
    intro i j hi hj hij e
    obtain ⟨_, a2, _⟩ := l3 i hi
    obtain ⟨_, b2, _⟩ := l3 j hj
    have h3 := a2.2.2.1
    have h4 := b2.2.2.1
    rw [e] at h3
    omega
theorem rmk_low {j : Nat} (hj : j < 12) (k : Nat) (x : Nat → UInt8) : rmk k x j = x j := by
  rw [rmk_at, if_neg (by omega)]
theorem rmL_low {j : Nat} (hj : j < 12) : ∀ (K : List Nat) (x : Nat → UInt8), rmL K x j = x j
  | [], x => rfl
  | a :: K, x => by rw [rmL_cons, rmL_low hj K, rmk_low hj]
/-- all that is needed of an entry that is deleted -/
theorem del_facts {n : Nat} {u W : Nat → Nat → UInt8} {d b o a : Nat} {nm : ByteArray} {l P : List Nat} (hd : DD n u d) (hl : Lnk (nx2 u) (u d (tTab d + tHash nm)).toNat l) (hle : ∀ x ∈ l, EE n u d x) (hbl : b ∈ l) (hnm : tnm (u b) = nm) (hP : ∀ x ∈ P, x < n ∧ x ≠ 0 ∧ u x 0 = 3) (hown : ownL b l (d, tTab d + tHash nm) = (o, a)) (hW : ∀ i, i ≠ b → W i = dropL u P i) (hWb : ∀ j, j ≠ 1 → j < 12 → W b j = u b j) :
    o < n ∧ a < 32 ∧ Lnk (nx2 W) (W d (tTab d + tHash nm)).toNat l ∧ tnm (W b) = nm ∧ delS W o a b = delI u o a b P := by
  have hE := hle b hbl
  have hT := tHash_lt nm
  have hT2 := tTab_le d
  have hbP : b ∉ P := fun q => hE.not3 (hP b q).2.2
  have hdP : d ∉ P := fun q => hd.not3 (hP d q).2.2
  have hlP : ∀ x ∈ l, x ∉ P := fun x hx q => (hle x hx).not3 (hP x q).2.2
  have hoc : (o = d ∧ a = tTab d + tHash nm) ∨ (o ∈ l ∧ o ≠ b ∧ a = 2) := by
    rcases ownL_cases b l d (tTab d + tHash nm) hbl with h | h
    · rw [hown] at h
      simp only [Prod.mk.injEq] at h
      exact .inl h
    · rw [hown] at h
      exact .inr h
  have hdW : ∀ j, j ≠ 1 → (d = 0 → j < 12) → W d j = u d j := fun j h1 h2 => by
    rw [hW d (fun e => hE.nd e.symm)]
    by_cases h0 : d = 0
    · subst h0
      by_cases hPn : P = []
      · subst hPn; rfl
      · rw [dropL_zero P (fun k hk => (hP k hk).2.1) hPn, sealU_eq1 _ j h1, rmL_low (h2 rfl)]
    · rw [dropL_other P hdP h0]
  refine ⟨?_, ?_, ?_, ?_, ?_⟩
  · rcases hoc with ⟨rfl, _⟩ | ⟨h, _⟩
    · exact hd.1
    · exact (hle o h).lt
  · rcases hoc with ⟨_, rfl⟩ | ⟨_, _, rfl⟩ <;> omega
  · rw [hdW _ (by unfold tTab; split <;> omega) (fun h0 => by unfold tTab; rw [if_pos h0]; omega)]
    refine hl.congr (fun x hx => ?_)
    unfold nx2
    by_cases hxb : x = b
    · subst hxb
      rw [hWb 2 (by omega) (by omega)]
    · rw [hW x hxb, dropL_other P (hlP x hx) (hle x hx).ne]
  · have h1 : tnm (W b) = tnm (u b) := by
      have hv : ∀ i, i < 8 → tV (W b) i = tV (u b) i := fun i hi => hWb (4 + i) (by omega) (by omega)
      have hn : tN (W b) = tN (u b) := tLen_congr 8 hv
      unfold tnm
      rw [hn]
      exact bsT_congr (fun i hi => hv i (by have := tN_le (u b); omega))
    rw [h1, hnm]
  · refine del_same hE.ne (fun k hk => (hP k hk).2.1) hbP ?_ ?_ ?_ hW (hWb 2 (by omega) (by omega))
    · rcases hoc with ⟨rfl, _⟩ | ⟨_, h, _⟩
      · exact fun e => hE.nd e.symm
      · exact h
    · rcases hoc with ⟨rfl, _⟩ | ⟨h, _⟩
      · exact hdP
      · exact hlP o h
    · intro h0
      rcases hoc with ⟨h1, h2⟩ | ⟨h, _⟩
      · rw [h2]
        unfold tTab
        rw [if_pos (by omega)]
        omega
      · exact absurd h0 (hle o h).ne
/-- an empty directory -/
theorem lsD_zero {n : Nat} {u : Nat → Nat → UInt8} {b : Nat} (hd : DD n u b) : (lsD u b 8).length = 0 ↔ ∀ j, j < 8 → u b (tTab b + j) = 0 := by
  have key : ∀ k, k ≤ 8 → ((lsD u b k).length = 0 ↔ ∀ j, j < k → u b (tTab b + j) = 0) := by
    intro k
    induction k with
    | zero => intro _; exact ⟨fun _ j hj => absurd hj (by omega), fun _ => rfl⟩
    | succ k ih =>
      intro hk
      have ih := ih (by omega)
      obtain ⟨l, l1, _, _⟩ := hd.chain (show k < 8 by omega)
      have hc : (lsC u (u b (tTab b + k)).toNat).length = l.length := by
        unfold lsC
        rw [lkL_eq l1, List.length_map]
      have hz : l.length = 0 ↔ u b (tTab b + k) = 0 := by
        constructor
        · intro h
          have : l = [] := List.eq_nil_of_length_eq_zero h
          subst this
          by_cases h0 : (u b (tTab b + k)).toNat = 0
          · exact UInt8.toNat_inj.1 h0
          · obtain ⟨l', e, _⟩ := l1.step h0
            cases e
        · intro h
          rw [h] at l1
          rw [l1.zero]
          rfl
      rw [lsD_succ, List.length_append, hc]
      constructor
      · intro h j hj
        rcases Nat.lt_succ_iff_lt_or_eq.1 hj with h1 | rfl
        · exact ih.1 (by omega) j h1
        · exact hz.1 (by omega)
      · intro h
        have h1 := ih.2 (fun j hj => h j (by omega))
        have h2 := hz.2 (h k (by omega))
        omega
  exact key 8 (Nat.le_refl _)
/-! ### what deleting answers -/
/-- the data blocks of a file -/
noncomputable def prtL (u : Nat → Nat → UInt8) (b : Nat) : List Nat := if u b 0 = 2 then lkL (nx4 u) (u b 14).toNat else []
noncomputable def dlO (u : Nat → Nat → UInt8) (d : Nat) (nm : ByteArray) : Nat × Nat := ownL (lookU u d nm) (lkL (nx2 u) (u d (tTab d + tHash nm)).toNat) (d, tTab d + tHash nm)
noncomputable def dlU (u : Nat → Nat → UInt8) (d : Nat) (nm : ByteArray) : Nat → Nat → UInt8 := delI u (dlO u d nm).1 (dlO u d nm).2 (lookU u d nm) (prtL u (lookU u d nm))
open Classical in
/-- the code of a deletion -/
noncomputable def dlC (u : Nat → Nat → UInt8) (d : Nat) (nm : ByteArray) : Nat := if lookU u d nm = 0 then 3 else if u (lookU u d nm) 0 = 4 ∧ ¬ ∀ j, j < 8 → u (lookU u d nm) (12 + j) = 0 then 6 else 0
noncomputable def dltC (n : Nat) (s : Nat → ByteArray) (p : ByteArray) : Nat := if (askT n s p).1 = 0 then dlC (fun i => byteAt (s i)) (askT n s p).2.1 (askT n s p).2.2 else (askT n s p).1
noncomputable def dltN (n : Nat) (s : Nat → ByteArray) (p : ByteArray) : Nat := if dltC n s p = 0 then n else 0
noncomputable def dltF (n : Nat) (s : Nat → ByteArray) (p : ByteArray) (i : Nat) : ByteArray := bstr 32 (dlU (fun i => byteAt (s i)) (askT n s p).2.1 (askT n s p).2.2 i)
theorem dltC_bad {n : Nat} {s : Nat → ByteArray} {p : ByteArray} (h : (askT n s p).1 ≠ 0) : dltC n s p = (askT n s p).1 := if_neg h
theorem dltC_ok {n : Nat} {s : Nat → ByteArray} {p : ByteArray} (h : (askT n s p).1 = 0) : dltC n s p = dlC (fun i => byteAt (s i)) (askT n s p).2.1 (askT n s p).2.2 := if_pos h
theorem dlC_none {u : Nat → Nat → UInt8} {d : Nat} {nm : ByteArray} (h : lookU u d nm = 0) : dlC u d nm = 3 := if_pos h
theorem dlC_full {u : Nat → Nat → UInt8} {d : Nat} {nm : ByteArray} (h : lookU u d nm ≠ 0) (h2 : u (lookU u d nm) 0 = 4) (h3 : ¬ ∀ j, j < 8 → u (lookU u d nm) (12 + j) = 0) : dlC u d nm = 6 := by unfold dlC; rw [if_neg h, if_pos ⟨h2, h3⟩]
theorem dlC_ok {u : Nat → Nat → UInt8} {d : Nat} {nm : ByteArray} (h : lookU u d nm ≠ 0) (h2 : ¬ (u (lookU u d nm) 0 = 4 ∧ ¬ ∀ j, j < 8 → u (lookU u d nm) (12 + j) = 0)) : dlC u d nm = 0 := by unfold dlC; rw [if_neg h, if_neg h2]
end Go.Proofs.YtiefcgmghkkbmaaGreatDoor
