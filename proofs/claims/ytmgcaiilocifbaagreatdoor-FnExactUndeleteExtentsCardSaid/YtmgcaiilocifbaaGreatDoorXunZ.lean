/-
  Disks of extents: a deleted file restored: plain.
  A number looked up in a list in its order: the program's side. (Lines of GbP, printed apart.)
  Disks of extents: whether extents may be restored: the program's side.
  Disks of extents: whether extents may be restored: the reference's side.
-/
import Derived.Test.YtmgcaiilocifbaaGreatDoorXrdP
import Derived.Test.YtmgcaiilocifbaaGreatDoorXrdY
import Derived.Test.YtmgcaiilocifbaaGreatDoorXuH
import Derived.Test.YtmgcaiilocifbaaGreatDoorXmT
import Derived.Lib.SliceRun
import Derived.Deep.DeepCutAuto
import Derived.Test.YtmgcaiilocifbaaGreatDoorXrdX
namespace Go.Proofs.YtmgcaiilocifbaaGreatDoor
open Go Go.ChangeShapes Go.WideShapes Go.ChangeAt Go.RowKit lib
set_option linter.unusedVariables false
set_option linter.unusedSimpArgs false
set_option maxRecDepth 100000
/-- a deleted entry of a name -/
def goneBy (z : Nat) (U : Nat → UInt8) (nm : ByteArray) (k : Nat) : Prop := (xen z U k).st = 229 ∧ (xen z U k).nm = nm
noncomputable def goneOf (n : Nat) (s : Nat → ByteArray) (nm : ByteArray) : List Nat := picks (goneBy (s 0).size (joinU (s 0).size s) nm) (entsX n)
theorem noGone {z : Nat} {U : Nat → UInt8} {E : Nat} : picks (goneBy z U ⟨#[]⟩) E = [] := by
  have : ∀ k, k ∉ picks (goneBy z U ⟨#[]⟩) E := fun k hk => by
    obtain ⟨_, h1, h2⟩ := mem_picks.1 hk
    exact names_ne (xen_name (by rw [h1]; decide)) h2
  exact List.eq_nil_iff_forall_not_mem.2 this
theorem goneAs_by {z : Nat} {U : Nat → UInt8} {E : Nat} {nm : ByteArray} (h : nm ≠ ⟨#[]⟩) : picks (goneAs z U nm) E = picks (goneBy z U nm) E :=
  picks_congr fun k _ => ⟨fun q => ⟨q.1, q.2.resolve_left h⟩, fun q => ⟨q.1, .inr q.2⟩⟩
/-- two of them have one number -/
def twiceX (L : List XE) : Prop := ¬ (L.map (·.no)).Nodup
theorem twiceX_perm {L D : List XE} (h : D.Perm L) : twiceX D ↔ twiceX L := by
  unfold twiceX
  rw [(h.map _).nodup_iff]
/-- two neighbours have one number -/
def adjX (D : List XE) (i : Nat) : Prop := ∃ j, j + 1 < i ∧ (D.getD j xe0).no = (D.getD (j + 1) xe0).no
theorem adjX_twice {D : List XE} (hs : D.Pairwise fun a b => a.no ≤ b.no) : adjX D D.length ↔ twiceX D := by
  unfold adjX twiceX
  constructor
  · rintro ⟨j, hj, he⟩ hn
    have h1 := List.pairwise_iff_getElem.1 hn j (j + 1) (by simp; omega) (by simp; omega) (by omega)
    rw [getD_at (by omega), getD_at hj] at he
    simp only [List.getElem_map] at h1
    exact h1 he
  · intro hn
    refine Classical.byContradiction fun hc => hn (List.pairwise_iff_getElem.2 fun i j hi hj hij => ?_)
    simp only [List.length_map] at hi hj
    simp only [List.getElem_map]
    intro he
    refine hc ⟨i, by omega, ?_⟩
    rw [getD_at hi, getD_at (by omega)]
    have h1 := List.pairwise_iff_getElem.1 hs i (i + 1) hi (by omega) (by omega)
    rcases Nat.eq_or_lt_of_le (show i + 1 ≤ j by omega) with h | h
    · subst h; exact he
    · have h2 := List.pairwise_iff_getElem.1 hs (i + 1) j (by omega) hj h
      omega
theorem adjX_more {D : List XE} {i : Nat} (h : ¬ adjX D i) (hn : 0 < i → (D.getD (i - 1) xe0).no ≠ (D.getD i xe0).no) : ¬ adjX D (i + 1) := by
  rintro ⟨j, hj, he⟩
  rcases Nat.eq_or_lt_of_le (show j + 1 ≤ i by omega) with h1 | h1
  · subst h1
    exact hn (by omega) (by simpa using he)
  · exact h ⟨j, h1, he⟩
theorem adjX_hit {D : List XE} {i m : Nat} (hi : 0 < i) (him : i < m) (he : (D.getD (i - 1) xe0).no = (D.getD i xe0).no) : adjX D m := ⟨i - 1, by omega, by rw [show i - 1 + 1 = i by omega]; exact he⟩
/-- their blocks are free, each listed once -/
def okB (F : List Int) (P : List Int) : Prop := P.Nodup ∧ ∀ b, b ∈ P → b ∈ F
theorem okB_nil (F : List Int) : okB F [] := ⟨List.nodup_nil, fun b h => by cases h⟩
theorem okB_snoc {F P : List Int} {b : Int} : okB F (P ++ [b]) ↔ okB F P ∧ b ∈ F ∧ b ∉ P := by
  unfold okB
  rw [List.nodup_append]
  constructor
  · rintro ⟨⟨h1, _, h2⟩, h3⟩
    exact ⟨⟨h1, fun c hc => h3 c (List.mem_append_left _ hc)⟩, h3 b (by simp), fun hb => h2 b hb b (by simp) rfl⟩
  · rintro ⟨⟨h1, h2⟩, h3, h4⟩
    refine ⟨⟨h1, by simp, fun c hc d hd => ?_⟩, fun c hc => ?_⟩
    · simp only [List.mem_singleton] at hd
      subst hd
      exact fun e => h4 (e ▸ hc)
    · rcases List.mem_append.1 hc with h | h
      · exact h2 c h
      · simp only [List.mem_singleton] at h
        subst h; exact h3
theorem okB_left {F P Q : List Int} (h : okB F (P ++ Q)) : okB F P := ⟨(List.nodup_append.1 h.1).1, fun b hb => h.2 b (List.mem_append_left _ hb)⟩
theorem okB_perm {F P Q : List Int} (h : P.Perm Q) : okB F P ↔ okB F Q := by
  unfold okB
  rw [h.nodup_iff]
  exact and_congr Iff.rfl ⟨fun q b hb => q b (h.mem_iff.2 hb), fun q b hb => q b (h.mem_iff.1 hb)⟩
/-- all their blocks -/
def blsD (D : List XE) : List Int := D.flatMap (·.bl)
theorem blsD_perm {D L : List XE} (h : D.Perm L) : (blsD D).Perm (blsD L) := h.flatMap_right _
theorem blsD_more {D : List XE} {i : Nat} {e : XE} (hi : i < D.length) (he : D.getD i xe0 = e) : blsD (D.take (i + 1)) = blsD (D.take i) ++ e.bl := by
  have h1 : D.take (i + 1) = D.take i ++ [e] := by
    rw [List.take_add_one, List.getElem?_eq_getElem hi, ← he, getD_at hi]; rfl
  unfold blsD
  rw [h1, List.flatMap_append, List.flatMap_cons, List.flatMap_nil, List.append_nil]
theorem blsD_take {D : List XE} {i : Nat} : ∃ Q, blsD D = blsD (D.take i) ++ Q := ⟨blsD (D.drop i), by unfold blsD; rw [← List.flatMap_append, List.take_append_drop]⟩
theorem okB_stop {F : List Int} {D : List XE} {i k : Nat} {e : XE} (hi : i < D.length) (he : D.getD i xe0 = e) (hk : k < e.bl.length) (h : ¬ (e.bl.getD k 0 ∈ F ∧ e.bl.getD k 0 ∉ blsD (D.take i) ++ e.bl.take k)) : ¬ okB F (blsD D) := fun ho => by
  obtain ⟨Q, hQ⟩ := blsD_take (D := D) (i := i + 1)
  rw [hQ, blsD_more hi he] at ho
  have h1 := okB_left ho
  have h2 : e.bl = e.bl.take (k + 1) ++ e.bl.drop (k + 1) := (List.take_append_drop _ _).symm
  rw [h2, ← List.append_assoc] at h1
  have h3 := okB_left h1
  have h4 : e.bl.take (k + 1) = e.bl.take k ++ [e.bl.getD k 0] := by
    rw [List.take_add_one, List.getElem?_eq_getElem hk, List.getD_eq_getElem?_getD, List.getElem?_eq_getElem hk]; rfl
  rw [h4, ← List.append_assoc] at h3
  exact h (okB_snoc.1 h3).2
theorem blsD_len {D : List XE} (h : ∀ e, e ∈ D → e.bl.length ≤ 4) : (blsD D).length ≤ 4 * D.length := by
  unfold blsD
  induction D with
  | nil => simp
  | cons a D ih =>
    rw [List.flatMap_cons, List.length_append, List.length_cons]
    have := ih (fun e he => h e (List.mem_cons_of_mem _ he))
    have := h a List.mem_cons_self
    omega
open Classical in
/-- whether extents are to be restored, in whatever order -/
noncomputable def rstCode (n t z : Nat) (F : List Int) (D : List XE) : Int := if twiceX D then 11 else if okX n t z D ∧ okB F (blsD D) then 0 else 10
theorem rst_twice {n t z : Nat} {F : List Int} {D : List XE} (h : twiceX D) : rstCode n t z F D = 11 := if_pos h
theorem rst_ok {n t z : Nat} {F : List Int} {D : List XE} (h : ¬ twiceX D) (h2 : okX n t z D ∧ okB F (blsD D)) : rstCode n t z F D = 0 := by unfold rstCode; rw [if_neg h, if_pos h2]
theorem rst_bad {n t z : Nat} {F : List Int} {D : List XE} (h : ¬ twiceX D) (h2 : ¬ (okX n t z D ∧ okB F (blsD D))) : rstCode n t z F D = 10 := by unfold rstCode; rw [if_neg h, if_neg h2]
/-- the same by the other way -/
theorem rst_other {n t z : Nat} {F : List Int} {D L : List XE} (hp : D.Perm L) (hs : D.Pairwise fun a b => a.no ≤ b.no) :
    (twiceX L → rstCode n t z F D = 11) ∧ (¬ twiceX L → (∀ k, k < L.length → okS n t z L k) ∧ okB F (blsD L) → rstCode n t z F D = 0) ∧ (¬ twiceX L → ¬ ((∀ k, k < L.length → okS n t z L k) ∧ okB F (blsD L)) → rstCode n t z F D = 10) := by
  have h1 := twiceX_perm hp
  have h2 := (ways_agree (n := n) (t := t) (z := z) (U := fun _ => 0) hp hs).1
  have h3 := okB_perm (F := F) (blsD_perm hp)
  refine ⟨fun h => rst_twice (h1.2 h), fun h q => rst_ok (fun q2 => h (h1.1 q2)) ⟨h2.2 q.1, h3.2 q.2⟩, fun h q => rst_bad (fun q2 => h (h1.1 q2)) (fun q2 => q ⟨h2.1 q2.1, h3.1 q2.2⟩)⟩
/-- the free data blocks, as numbers -/
noncomputable def freeI (z : Nat) (U : Nat → UInt8) (E t i : Nat) : List Int := (freeX z U E t i).map fun (k : Nat) => (k : Int)
open Classical in
/-- the same code by the other way -/
noncomputable def rstS (n t z : Nat) (F : List Int) (L : List XE) : Int := if twiceX L then 11 else if (∀ k, k < L.length → okS n t z L k) ∧ okB F (blsD L) then 0 else 10
theorem rstS_twice {n t z : Nat} {F : List Int} {L : List XE} (h : twiceX L) : rstS n t z F L = 11 := if_pos h
theorem rstS_ok {n t z : Nat} {F : List Int} {L : List XE} (h : ¬ twiceX L) (h2 : (∀ k, k < L.length → okS n t z L k) ∧ okB F (blsD L)) : rstS n t z F L = 0 := by unfold rstS; rw [if_neg h, if_pos h2]
theorem rstS_bad {n t z : Nat} {F : List Int} {L : List XE} (h : ¬ twiceX L) (h2 : ¬ ((∀ k, k < L.length → okS n t z L k) ∧ okB F (blsD L))) : rstS n t z F L = 10 := by unfold rstS; rw [if_neg h, if_neg h2]
theorem rst_same {n t z : Nat} {F : List Int} {D L : List XE} (hp : D.Perm L) (hs : D.Pairwise fun a b => a.no ≤ b.no) : rstCode n t z F D = rstS n t z F L := by
  obtain ⟨h1, h2, h3⟩ := rst_other (F := F) (n := n) (t := t) (z := z) hp hs
  by_cases q1 : twiceX L
  · rw [h1 q1, rstS_twice q1]
  · by_cases q2 : (∀ k, k < L.length → okS n t z L k) ∧ okB F (blsD L)
    · rw [h2 q1 q2, rstS_ok q1 q2]
    · rw [h3 q1 q2, rstS_bad q1 q2]
/-- the code of a restoring -/
noncomputable def undL (n : Nat) (s : Nat → ByteArray) (nm : ByteArray) : List XE := xlist (s 0).size (joinU (s 0).size s) (goneOf n s nm)
noncomputable def undF (n : Nat) (s : Nat → ByteArray) : List Int := freeI (s 0).size (joinU (s 0).size s) (entsX n) (dataX n (s 0).size) (n - dataX n (s 0).size)
open Classical in
noncomputable def undXCode (n : Nat) (s : Nat → ByteArray) (nm : ByteArray) : Int := if opensX n s then (if goneOf n s nm = [] then 3 else if fileOf n s nm = [] then rstS n (dataX n (s 0).size) (s 0).size (undF n s) (undL n s nm) else 4) else 7
theorem undX_shut {n : Nat} {s : Nat → ByteArray} {nm : ByteArray} (h : ¬ opensX n s) : undXCode n s nm = 7 := if_neg h
theorem undX_none {n : Nat} {s : Nat → ByteArray} {nm : ByteArray} (h : opensX n s) (h2 : goneOf n s nm = []) : undXCode n s nm = 3 := by unfold undXCode; rw [if_pos h, if_pos h2]
theorem undX_there {n : Nat} {s : Nat → ByteArray} {nm : ByteArray} (h : opensX n s) (h2 : goneOf n s nm ≠ []) (h3 : fileOf n s nm ≠ []) : undXCode n s nm = 4 := by unfold undXCode; rw [if_pos h, if_neg h2, if_neg h3]
theorem undX_rst {n : Nat} {s : Nat → ByteArray} {nm : ByteArray} (h : opensX n s) (h2 : goneOf n s nm ≠ []) (h3 : fileOf n s nm = []) : undXCode n s nm = rstS n (dataX n (s 0).size) (s 0).size (undF n s) (undL n s nm) := by unfold undXCode; rw [if_pos h, if_neg h2, if_pos h3]
/-- the disk's bytes when a file is restored -/
noncomputable def undX (n : Nat) (s : Nat → ByteArray) (nm : ByteArray) : Nat → UInt8 := marksX (s 0).size (joinU (s 0).size s) 1 (goneOf n s nm)
/-- how a restoring ends -/
def UnOut (n : Nat) (s : Nat → ByteArray) (nm : ByteArray) (r : Ending) (w w' : World) : Prop := ∃ A2 c2, r = .returned (.tuple #[.slice A2 (if undXCode n s nm = 0 then n else 0) c2, .int .i64 (undXCode n s nm)]) ∧ w'.ownsRow w.heap.size 9 1 (.slice A2 (if undXCode n s nm = 0 then n else 0) c2) (if undXCode n s nm = 0 then n else 0) ((List.range (if undXCode n s nm = 0 then n else 0)).map fun i => .string (blkOf (s 0).size (undX n s nm) i)) ∧ Below w.heap.size w w'
end Go.Proofs.YtmgcaiilocifbaaGreatDoor
namespace Go.Proofs.YtmgcaiilocifbaaGreatDoor
open Go Go.ChangeShapes Go.WideShapes Go.ChangeAt Go.RowKit lib
set_option linter.unusedVariables false
set_option linter.unusedSimpArgs false
set_option maxRecDepth 100000
/-- numbers that go up -/
def UpX (L : List Nat) : Prop := ∀ i j, i < j → j < L.length → L.getD i 0 < L.getD j 0
theorem isNaNX_any (a : Int) (w : World) : Calls Tryz.prog 85 #[.int .i64 a] w fun e w' => e = .returned (.bool false) ∧ w = w' := by
  go_enter Tryz.func85, Tryz.ntmps85
  go_wp2
  go_ret
  simp
theorem slIsNaNX_any (a : Int) (w : World) : Calls Tryz.prog 69 #[.int .i64 a] w fun e w' => e = .returned (.bool false) ∧ w = w' := by
  go_enter Tryz.func69, Tryz.ntmps69
  go_wp2
  go_ret
  simp
theorem lessX_any (a b : Int) (w : World) : Calls Tryz.prog 68 #[.int .i64 a, .int .i64 b] w fun e w' => e = .returned (.bool (decide (a < b))) ∧ w = w' := by
  go_enter Tryz.func68, Tryz.ntmps68
  go_wp2_with (go_at_call 85; refine (isNaNX_any _ _).mono ?_; rintro e w' ⟨rfl, rfl⟩)
  go_ret
  simp
set_option maxHeartbeats 1000000 in
theorem searchX_any {w : World} {B c : Nat} {A : Option Addr} {L : List Nat} (x : Nat) (hs : Sl w B A L.length (fun i => .int .i64 ((L.getD i 0 : Nat) : Int))) (hup : UpX L) (hn : L.length ≤ 4096) :
    Calls Tryz.prog 49 #[.slice A L.length c, .int .i64 x] w fun r w' => ∃ (at' : Nat) (b : Bool), (b = true ↔ at' < L.length ∧ L.getD at' 0 = x) ∧ at' ≤ L.length ∧ (∀ j, j < at' → L.getD j 0 < x) ∧ (∀ j, at' ≤ j → j < L.length → x ≤ L.getD j 0) ∧ r = .returned (.tuple #[.int .i64 at', .bool b]) ∧ w' = w := by
  have HS := Lib.hid hs
  have HU := Lib.hid hup
  obtain ⟨m, hm⟩ : ∃ m, L.length = m := ⟨_, rfl⟩
  have HM := Lib.hid hm
  rw [hm] at hs hn ⊢
  clear hs hup hm
  go_enter Tryz.func49, Tryz.ntmps49
  go_wp2_with fail
  go_loopw [7, 8] (fun s7 s8 wr => wr = w ∧ ∃ i j : Nat, i ≤ j ∧ j ≤ m ∧ s7 = .int .i64 i ∧ s8 = .int .i64 j ∧ (∀ y, y < i → L.getD y 0 < x) ∧ (∀ y, j ≤ y → y < m → x ≤ L.getD y 0)) (fun s t _ => (intOf t).toNat - (intOf s).toNat)
  case atStart => exact ⟨rfl, 0, m, by omega, by omega, rfl, rfl, fun y hy => by omega, fun y h1 h2 => by omega⟩
  case round =>
    obtain ⟨rfl, i, j, hij, hjm, rfl, rfl, h1, h2⟩ := hrel
    have H1 := Lib.hid h1
    have H2 := Lib.hid h2
    clear h1 h2
    by_cases hlt : i < j
    · obtain ⟨h, hh⟩ : ∃ h, (i + j) / 2 = h := ⟨_, rfl⟩
      have hh1 : i ≤ h ∧ h < j := by omega
      have HH := Lib.hid hh
      have e0 : ((i : Int) + j) / 2 = (h : Int) := by omega
      have hsl := HS.out h (by rw [HM.out]; omega)
      obtain ⟨bb, oo, hA, hbb, hcc⟩ := hsl
      subst hA
      dsimp only at hcc
      obtain ⟨y, hy⟩ : ∃ y, L.getD h 0 = y := ⟨_, rfl⟩
      rw [hy] at hcc
      have HY := Lib.hid hy
      have HUX := Lib.hid (fun a b hab (hb : b < m) => HU.out a b hab (by rw [HM.out]; exact hb))
      clear hy hh
      go_upto_region 5 with fail
      clear e0
      by_cases hyx : y < x
      · have d1 : decide ((y : Int) < x) = true := by simp; omega
        go_wp2_with (go_at_call 68; refine (lessX_any _ _ _).mono ?_; rw [d1]; rintro e w' ⟨rfl, rfl⟩)
        go_roundw
        case rel =>
          refine ⟨trivial, h + 1, j, by omega, hjm, by go_num, rfl, fun q hq => ?_, H2.out⟩
          rcases Nat.lt_or_ge q h with h3 | h3
          · have := HUX.out q h h3 (by omega); rw [HY.out] at this; omega
          · obtain rfl : q = h := by omega
            rw [HY.out]; exact hyx
        case measure => simp [intOf]; omega
      · have d1 : decide ((y : Int) < x) = false := by simp; omega
        go_wp2_with (go_at_call 68; refine (lessX_any _ _ _).mono ?_; rw [d1]; rintro e w' ⟨rfl, rfl⟩)
        go_roundw
        case rel =>
          refine ⟨trivial, i, h, by omega, by omega, by go_num, rfl, H1.out, fun q hq1 hq2 => ?_⟩
          rcases Nat.lt_or_ge h q with h3 | h3
          · have := HUX.out h q h3 (by omega); rw [HY.out] at this; omega
          · obtain rfl : q = h := by omega
            rw [HY.out]; omega
        case measure => simp [intOf]; omega
    · obtain rfl : i = j := by omega
      by_cases hlm : i < m
      · have hsl := HS.out i (by rw [HM.out]; omega)
        obtain ⟨bb, oo, hA, hbb, hcc⟩ := hsl
        subst hA
        dsimp only at hcc
        obtain ⟨y, hy⟩ : ∃ y, L.getD i 0 = y := ⟨_, rfl⟩
        rw [hy] at hcc
        have HY := Lib.hid hy
        clear hy
        have e1 : ((y : Int) == (x : Int)) = decide (y = x) := by
          rw [Bool.eq_iff_iff]; simp only [beq_iff_eq, decide_eq_true_eq]; omega
        go_wp2_with (go_at_call 69; refine (slIsNaNX_any _ _).mono ?_; rintro e w' ⟨rfl, rfl⟩)
        all_goals go_ret2
        all_goals exact ⟨i, _, by rw [HY.out]; simp_all, hjm, H1.out, H2.out, rfl, rfl⟩
      · obtain rfl : i = m := by omega
        go_wp2_with fail
        go_ret2
        exact ⟨i, _, by simp, hjm, H1.out, H2.out, rfl, rfl⟩
end Go.Proofs.YtmgcaiilocifbaaGreatDoor
namespace Go.Proofs.YtmgcaiilocifbaaGreatDoor
open Go Go.ChangeShapes Go.WideShapes Go.ChangeAt Go.RowKit lib
set_option linter.unusedVariables false
set_option linter.unusedSimpArgs false
set_option maxRecDepth 100000
theorem up_picks (Q : Nat → Prop) (E : Nat) : (picks Q E).Pairwise (· < ·) := by
  open Classical in
  exact List.Pairwise.sublist List.filter_sublist List.pairwise_lt_range
theorem upX_free (z : Nat) (U : Nat → UInt8) (E t i : Nat) : UpX (freeX z U E t i) := by
  intro a b hab hb
  have h1 : (freeX z U E t i).Pairwise (· < ·) := by
    unfold freeX
    rw [List.pairwise_map]
    exact (up_picks _ _).imp (fun h => by omega)
  have h2 := List.pairwise_iff_getElem.1 h1 a b (by omega) hb hab
  rw [List.getD_eq_getElem?_getD, List.getElem?_eq_getElem (by omega), List.getD_eq_getElem?_getD, List.getElem?_eq_getElem hb]
  exact h2
theorem found_mem {L : List Nat} {x at' : Nat} (h1 : ∀ j, j < at' → L.getD j 0 < x) (h2 : ∀ j, at' ≤ j → j < L.length → x ≤ L.getD j 0) (hu : UpX L) : (at' < L.length ∧ L.getD at' 0 = x) ↔ (x : Int) ∈ L.map (fun (k : Nat) => (k : Int)) := by
  constructor
  · rintro ⟨h3, h4⟩
    refine List.mem_map.2 ⟨x, ?_, rfl⟩
    rw [← h4]
    exact getD_mem h3
  · intro h
    obtain ⟨y, hy, he⟩ := List.mem_map.1 h
    obtain rfl : y = x := by omega
    obtain ⟨j, hj, hjy⟩ := List.mem_iff_getElem.1 hy
    have hjd : L.getD j 0 = y := by rw [List.getD_eq_getElem?_getD, List.getElem?_eq_getElem hj]; exact hjy
    rcases Nat.lt_trichotomy j at' with h3 | rfl | h3
    · have := h1 j h3; omega
    · exact ⟨hj, hjd⟩
    · have h4 := hu at' j h3 hj
      have h5 := h2 at' (Nat.le_refl _) (by omega)
      omega
set_option maxHeartbeats 8000000 in
theorem restorable_any {w : World} {p g n z E t N c ca B : Nat} {u : Nat → UInt8} {A : Option Addr} {T : List XT} (h : XW w p g n z E t N c u) (hE : E ≤ 32) (hfit : ∀ k, k < E → z + k * 16 + 16 ≤ N) (hNb : N ≤ 4096) (hcN : N ≤ c) (hz : z ≤ 255) (ht : t ≤ n) (hn : n ≤ 128) (her : ERow B w A T.length ca T) (hes : ESl w.heap.size w T) (h0 : 0 < T.length) (hT : T.length ≤ 32) (hok : ∀ x, x ∈ T → x.1.ok z) (hsrt : T.Pairwise fun a b => a.1.no ≤ b.1.no) :
    Calls Tryz.prog 24 #[.pointer (some ⟨p, 0, none⟩), .slice A T.length ca] w fun r w' => r = .returned (.int .i64 (rstCode n t z (freeI z u E t (n - t)) (T.map (·.1)))) ∧ Below w.heap.size w w' := by
  obtain ⟨M, hMe⟩ : ∃ M, M = T.map (·.1) := ⟨_, rfl⟩
  obtain ⟨F, hF⟩ : ∃ F, F = freeI z u E t (n - t) := ⟨_, rfl⟩
  obtain ⟨m, hm⟩ : ∃ m, T.length = m := ⟨_, rfl⟩
  have hM : M.length = m := by rw [hMe, List.length_map]; exact hm
  have hsM : M.Pairwise fun a b => a.no ≤ b.no := by rw [hMe, List.pairwise_map]; exact hsrt
  have htw := adjX_twice hsM
  rw [hM] at htw
  obtain ⟨bo, hbo⟩ : ∃ bo : Bool, bo = true ↔ okX n t z M := by open Classical in exact ⟨decide (okX n t z M), decide_eq_true_iff⟩
  have HCP := Lib.hid (fun (W : World) (hW : Below w.heap.size w W) => implComplete_any (h.below hW) (by omega) (by omega) (her.below hW) ((hes.below hW).more hW.size) h0 (by omega) (fun x hx => XE.ok_len (hok x hx)) bo (by rw [← hMe]; exact hbo))
  have HFR := Lib.hid (fun (W : World) (hW : Below w.heap.size w W) => implFreeX_any (h.below hW) hE hfit hNb hcN hz ht hn)
  have HX := Lib.hid h
  have HER := Lib.hid her
  have HES := Lib.hid hes
  have HM := Lib.hid hM
  have HME := Lib.hid hMe
  have HOK := Lib.hid hok
  have HTW := Lib.hid htw
  have HT := Lib.hid hm
  have HBO := Lib.hid hbo
  have HF := Lib.hid hF
  rw [← hMe, ← hF]
  obtain ⟨cd, hcd⟩ : ∃ cd, rstCode n t z F M = cd := ⟨_, rfl⟩
  rw [hcd]
  have HCD := Lib.hid hcd
  rw [hm] at HCP h0 hT ⊢
  clear h her hes hok hM hMe hm htw hsM hsrt hbo hfit hF hcd
  go_enter Tryz.func24, Tryz.ntmps24
  go_wp2_with fail
  go_loopw [5] (fun s5 wr => ∃ i : Nat, i + 1 ≤ m ∧ s5 = .int .i64 ((i : Int) + 1) ∧ ¬ adjX M (i + 1) ∧ Below w.heap.size w wr) (fun i _ => m - (intOf i).toNat)
  case atStart => exact ⟨0, by omega, rfl, fun ⟨j, hj, _⟩ => absurd hj (by omega), Below.refl _ _⟩
  case round =>
    obtain ⟨i, hi, rfl, hadj, hbr⟩ := hrel
    have HADJ := Lib.hid hadj
    have HBR := Lib.hid hbr
    have hwr := hbr.size
    clear hadj hbr
    by_cases hlt : i + 1 < m
    · obtain ⟨x, hx⟩ : ∃ x, T[i]? = some x := ⟨_, List.getElem?_eq_getElem (by rw [HT.out]; omega)⟩
      obtain ⟨y, hy⟩ : ∃ y, T[i + 1]? = some y := ⟨_, List.getElem?_eq_getElem (by rw [HT.out]; omega)⟩
      have her' : ERow B wr A T.length ca T := HER.out.below HBR.out
      obtain ⟨gr, rfl, hgr, hBg, _, _, k2, _, _⟩ := eRow_cell her' hx
      obtain ⟨gr2, e2, _, _, _, _, l2, _, _⟩ := eRow_cell her' hy
      simp only [Option.some.injEq, Addr.mk.injEq, and_true] at e2
      subst e2
      have hgx := xts_getD hx
      have hgy := xts_getD hy
      rw [← HME.out] at hgx hgy
      obtain ⟨a, ha⟩ : ∃ a, x.1.no = a := ⟨_, rfl⟩
      obtain ⟨b, hb⟩ : ∃ b, y.1.no = b := ⟨_, rfl⟩
      rw [ha] at k2
      rw [hb] at l2
      have HGX : Hid ((M.getD i xe0).no = a) := by show _ = _; rw [hgx]; exact ha
      have HGY : Hid ((M.getD (i + 1) xe0).no = b) := by show _ = _; rw [hgy]; exact hb
      clear her' hx hy hgx hgy ha hb
      have hli : (i : Int) + 1 < (m : Int) := by omega
      go_upto_region 4 with fail
      by_cases hab : b = a
      · subst hab
        have hres : cd = 11 := HCD.out.symm.trans <| rst_twice (HTW.out.1 (adjX_hit (i := i + 1) (by omega) hlt (by rw [Nat.add_sub_cancel, HGX.out, HGY.out])))
        subst hres
        go_quiet ((fail))
        rename_i nq
        go_wp2_with fail
        go_ret
        exact ⟨rfl, HBR.out.drewN nq⟩
      · have e1 : (b == a) = false := beq_false_of_ne hab
        have hadj2 := adjX_more (i := i + 1) HADJ.out (fun _ => by rw [Nat.add_sub_cancel, HGX.out, HGY.out]; exact fun q => hab q.symm)
        have HA2 := Lib.hid hadj2
        clear hadj2
        go_quiet ((fail))
        rename_i nq
        go_wp2_with fail
        go_roundw
        case rel => exact ⟨i + 1, by omega, by go_num, HA2.out, HBR.out.drewN nq⟩
        case measure => simp [intOf]; omega
    · have him : i + 1 = m := by omega
      rw [him] at HADJ
      have e5 : (i : Int) + 1 = (m : Int) := by omega
      rw [e5]
      have hnt : ¬ twiceX M := fun q => HADJ.out (HTW.out.2 q)
      have HNT := Lib.hid hnt
      have HC1 := Lib.hid (HCP.out _ HBR.out)
      clear hnt HADJ him e5 hlt hi
      go_upto_region 6 with fail
      cases bo with
      | false =>
        have hnx : ¬ okX n t z M := fun q => by
          have := HBO.out.2 q
          cases this
        have hres : cd = 10 := HCD.out.symm.trans <| rst_bad HNT.out (fun q => hnx q.1)
        subst hres
        clear hnx
        go_wp2_with (go_at_call 47; refine HC1.out.mono ?_; rintro r w4 ⟨rfl, hb4⟩)
        go_ret
        exact ⟨rfl, HBR.out.trans (hb4.mono hwr)⟩
      | true =>
        have HOKX := Lib.hid (HBO.out.1 rfl)
        go_upto_region 8 with (go_at_call 47; refine HC1.out.mono ?_; rintro r w4 ⟨rfl, hb4⟩)
        have hB4 := HBR.out.trans (hb4.mono hwr)
        have HF1 := Lib.hid (HFR.out _ hB4)
        have HB4 := Lib.hid hB4
        have hz4 := hB4.size
        clear hb4 hB4
        go_upto_region 9 with (go_at_call 48; refine HF1.out.mono ?_; rintro r w5 ⟨A5, c5, rfl, hna, hb5⟩)
        have hB5 := HB4.out.trans (hb5.mono hz4)
        have hz5 := hB5.size
        obtain ⟨FL, hFL⟩ : ∃ FL, freeX z u E t (n - t) = FL := ⟨_, rfl⟩
        have hup := upX_free z u E t (n - t)
        have hfl := freeX_len z u E t (n - t)
        have hFI : F = FL.map (fun (k : Nat) => (k : Int)) := by rw [HF.out, ← hFL]; rfl
        rw [hFL] at hna hup hfl ⊢
        have HFI := Lib.hid hFI
        have HUP := Lib.hid hup
        have HNA := Lib.hid hna
        have HB5 := Lib.hid hB5
        have hmm := @run_makeMap Tryz.prog
        have HM0 := Lib.hid (BSet.made (P := Tryz.prog) (k := 2) (e := 4) w5)
        have HA0 := Lib.hid ((Below.refl w5.heap.size w5).alloc (Nat.le_refl _) (.map #[] 0))
        clear hna hb5 hB5 hFL hup hFI
        have hfl2 : FL.length ≤ 4096 := by omega
        have HST := Lib.hid (fun (W : World) (b cnt : Nat) (Q : Nat → Prop) (hW : BSet Tryz.prog 2 4 W b cnt Q) (hc : cnt ≤ 100000) (x : Nat) (hx : x < 1000) => hW.store (t := 81) Tryz.underlying2 Tryz.underlying81 Tryz.underlying4 (by simp only [maxLen]; omega) x hx true)
        have HLQ := Lib.hid (fun (W : World) (b cnt : Nat) (Q : Nat → Prop) (hW : BSet Tryz.prog 2 4 W b cnt Q) (x : Nat) (hx : x < 1000) => hW.look (t := 81) Tryz.underlying2 Tryz.underlying81 Tryz.underlying4 (show (zeroValue 4).run Tryz.prog W = .ok (.bool false) W by rfl) x hx)
        go_upto_region 10 with fail
        obtain ⟨mb, hmb⟩ : ∃ mb, w5.heap.size = mb := ⟨_, rfl⟩
        have HMB := Lib.hid hmb
        generalize hW6 : w5.alloc (.map #[] 0) = W6 at *
        rw [hmb] at HM0 HA0 hz5 ⊢
        clear hW6 hmb hmm
        go_wp2_with fail
        go_loopw [9, 11, 12, 13, 41, 48] (fun s9 s11 s12 s13 s41 s48 wr => ∃ j cnt : Nat, j ≤ m ∧ s41 = .int .i64 j ∧ okB F (blsD (M.take j)) ∧ BSet Tryz.prog 2 4 wr mb cnt (fun x => (x : Int) ∈ blsD (M.take j)) ∧ cnt ≤ 4 * j ∧ Below mb w5 wr) (fun _ _ _ _ j _ _ => m - (intOf j).toNat)
        case atStart => exact ⟨0, 0, Nat.zero_le _, rfl, okB_nil _, HM0.out.congr fun x => by simp [blsD], by omega, HA0.out⟩
        case round =>
          obtain ⟨j, cnt, hj, rfl, hob, hbs, hcnt, hbr6⟩ := hrel
          have HOB := Lib.hid hob
          have hB6 := HB5.out.trans (hbr6.mono hz5)
          have hz6 := hbr6.size
          clear hob
          by_cases hlt : j < m
          · obtain ⟨x, hx⟩ : ∃ x, T[j]? = some x := ⟨_, List.getElem?_eq_getElem (by rw [HT.out]; exact hlt)⟩
            obtain ⟨gr, rfl, hgr, hBg, k0, k1, k2, k3, k4⟩ := eRow_cell (HER.out.below hB6) hx
            have hxm : x ∈ T := List.mem_of_getElem? hx
            have hsx := HES.out x hxm
            have hxok := HOK.out x hxm
            have hgD := xts_getD hx
            rw [← HME.out] at hgD
            obtain ⟨e, ae, ce⟩ := x
            simp only at k0 k1 k2 k3 k4 hsx hxok hgD
            have hb4 := XE.ok_len hxok
            have HGD := Lib.hid hgD
            have HXO := Lib.hid hxok
            clear hx hxm hgD hxok
            obtain ⟨ml, hml⟩ : ∃ ml, e.bl.length = ml := ⟨_, rfl⟩
            rw [hml] at k4 hsx hb4
            have HML := Lib.hid hml
            clear hml
            have hbx := (Below.refl wr.heap.size wr).alloc (Nat.le_refl _) (.cells #[.int .i64 e.st, .string e.nm, .int .i64 e.no, .int .i64 e.tl, .slice ae ml ce] 38)
            have hrx := Rw.new wr 38 #[.int .i64 e.st, .string e.nm, .int .i64 e.no, .int .i64 e.tl, .slice ae ml ce]
            have HBS7 := Lib.hid (hbs.below hbx)
            have HB7 := Lib.hid (hbr6.trans (hbx.mono (by have := HMB.out; have := hbr6.size; omega)))
            have HSX := Lib.hid hsx
            have hzz : w.heap.size ≤ wr.heap.size := hB6.size
            clear hsx hbs hbr6 hB6 hbx
            go_upto_region 13 with fail
            generalize wr.alloc (.cells #[.int .i64 e.st, .string e.nm, .int .i64 e.no, .int .i64 e.tl, .slice ae ml ce] 38) = W7 at *
            have c4 := hrx.cell 4
            clear hrx k0 k1 k2 k3 k4
            go_wp2_with fail
            go_loopw [11, 12, 13, 48] (fun s11 s12 s13 s48 wq => ∃ k cnt2 : Nat, k ≤ ml ∧ s48 = .int .i64 k ∧ okB F (blsD (M.take j) ++ e.bl.take k) ∧ BSet Tryz.prog 2 4 wq mb cnt2 (fun x => (x : Int) ∈ blsD (M.take j) ++ e.bl.take k) ∧ cnt2 ≤ cnt + k ∧ Below mb w5 wq) (fun _ _ _ k _ => ml - (intOf k).toNat)
            case atStart => exact ⟨0, cnt, Nat.zero_le _, rfl, by simpa using HOB.out, HBS7.out.congr fun x => by simp, by omega, HB7.out⟩
            case round =>
              obtain ⟨k, cnt2, hk, rfl, hokk, hbs, hcnt2, hbq⟩ := hrel
              have HOKK := Lib.hid hokk
              have hBq := HB5.out.trans (hbq.mono hz5)
              have hzq := hbq.size
              clear hokk
              by_cases hkm : k < ml
              · obtain ⟨hv, hv2⟩ := bl_nat HXO.out (i := k) (by rw [HML.out]; exact hkm)
                obtain ⟨b2, o2, rfl, hb2l, hcj⟩ := (HSX.out.below hBq) k hkm
                dsimp only at hcj
                obtain ⟨xb, hxb⟩ : ∃ xb, (e.bl.getD k 0).toNat = xb := ⟨_, rfl⟩
                rw [hxb] at hv hv2
                rw [hv] at hcj
                have HV := Lib.hid hv
                have hsl : Sl wr wr.heap.size A5 FL.length (fun i => .int .i64 ((FL.getD i 0 : Nat) : Int)) := (HNA.out.below (hbq.mono (Nat.le_of_eq HMB.out))).sl
                have HSE := Lib.hid (searchX_any (c := c5) xb hsl HUP.out hfl2)
                have hbad : ¬ ((xb : Int) ∈ F ∧ (xb : Int) ∉ blsD (M.take j) ++ e.bl.take k) → cd = 10 := fun q => HCD.out.symm.trans <| rst_bad HNT.out (fun q2 => okB_stop (by rw [HM.out]; exact hlt) HGD.out (by rw [HML.out]; exact hkm) (by rw [HV.out]; exact q) q2.2)
                have HBAD := Lib.hid hbad
                have HBS := Lib.hid hbs
                have HBQ := Lib.hid hbq
                have HBB := Lib.hid hBq
                clear hv hxb hsl hbad hbs hbq hBq
                go_upto_region 17 with (go_at_call 49; refine HSE.out.mono ?_; rintro r w8 ⟨at', b, hb, ha1, ha2, ha3, rfl, rfl⟩)
                have hbF : b = true ↔ (xb : Int) ∈ F := by rw [HFI.out, hb]; exact found_mem ha2 ha3 HUP.out
                clear hb ha2 ha3
                cases b with
                | false =>
                  have hres : cd = 10 := HBAD.out (fun q => by have := hbF.2 q.1; cases this)
                  subst hres
                  clear hbF
                  go_wp2_with fail
                  go_ret
                  exact ⟨rfl, HBB.out⟩
                | true =>
                  obtain ⟨v, hrun, hv⟩ := HLQ.out _ mb _ _ HBS.out xb (by omega)
                  cases v with
                  | true =>
                    have hres : cd = 10 := HBAD.out (fun q => q.2 (hv.1 rfl))
                    subst hres
                    clear hbF hv
                    go_wp2_with fail
                    go_ret
                    exact ⟨rfl, HBB.out⟩
                  | false =>
                    have hnm : (xb : Int) ∉ blsD (M.take j) ++ e.bl.take k := fun q => by
                      have := hv.2 q
                      cases this
                    have HNM := Lib.hid hnm
                    have HBF := Lib.hid (hbF.1 rfl)
                    obtain ⟨w9, hrun9, hbs9, hg9⟩ := HST.out _ mb _ _ HBS.out (by omega) xb (by omega)
                    have HBS9 := Lib.hid hbs9
                    have HG9 := Lib.hid hg9
                    clear hbF hv hnm hbs9 hg9
                    go_wp2_with fail
                    go_roundw
                    case rel =>
                      have htk := take_moreI (l := e.bl) (j := k) (by rw [HML.out]; exact hkm)
                      rw [HV.out] at htk
                      refine ⟨k + 1, cnt2 + 1, by omega, by go_num, ?_, HBS9.out.congr fun x => ?_, by omega, HBQ.out.grown HG9.out (by rw [← HMB.out]; exact hzq) (fun q hq => by injection hq with hq; omega)⟩
                      · rw [htk, ← List.append_assoc]
                        exact okB_snoc.2 ⟨HOKK.out, HBF.out, HNM.out⟩
                      · rw [htk, ← List.append_assoc, List.mem_append (s := blsD (M.take j) ++ e.bl.take k)]
                        by_cases hx : x = xb
                        · subst hx; simp
                        · rw [if_neg hx]
                          constructor
                          · exact .inl
                          · rintro (h | h)
                            · exact h
                            · simp at h; omega
                    case measure => simp [intOf]; omega
              · obtain rfl : k = ml := by omega
                have htk := blsD_more (D := M) (i := j) (by rw [HM.out]; exact hlt) HGD.out
                have HTK := Lib.hid htk
                have HBS := Lib.hid hbs
                have HBQ := Lib.hid hbq
                clear htk hbs hbq hBq
                go_wp2_with fail
                go_roundw
                case rel =>
                  have h1 := HOKK.out
                  have h2 := HBS.out
                  rw [← HML.out, List.take_length, ← HTK.out] at h1
                  rw [← HML.out, List.take_length, ← HTK.out] at h2
                  exact ⟨j + 1, cnt2, by omega, by go_num, h1, h2, by omega, HBQ.out⟩
                case measure => simp [intOf]; omega
          · obtain rfl : j = m := by omega
            have hres : cd = 0 := HCD.out.symm.trans <| rst_ok HNT.out ⟨HOKX.out, by have := HOB.out; rw [← HM.out, List.take_length] at this; exact this⟩
            subst hres
            go_wp2_with fail
            go_ret
            exact ⟨rfl, hB6⟩
end Go.Proofs.YtmgcaiilocifbaaGreatDoor
namespace Go.Proofs.YtmgcaiilocifbaaGreatDoor
open Go Go.ChangeShapes Go.WideShapes Go.ChangeAt Go.RowKit lib
set_option linter.unusedVariables false
set_option linter.unusedSimpArgs false
set_option maxRecDepth 100000
theorem hasI_mem (l : List Int) (a : Int) (b : Bool) (hb : b = true ↔ a ∈ l) : hasZ (fun i => l.getD i 0) l.length a = b := by
  by_cases h : a ∈ l
  · rw [hb.2 h]
    obtain ⟨i, hi, rfl⟩ := List.mem_iff_getElem.1 h
    exact hasZ_true hi (by simp [List.getD_eq_getElem?_getD, hi])
  · have : b = false := by rw [Bool.eq_false_iff]; exact fun q => h (hb.1 q)
    rw [this]
    refine hasZ_false fun k hk he => h ?_
    rw [← he, List.getD_eq_getElem?_getD, List.getElem?_eq_getElem hk]
    exact List.getElem_mem hk
theorem nodup_snoc {l : List Int} {a : Int} : (l ++ [a]).Nodup ↔ l.Nodup ∧ a ∉ l := by
  have h := okB_snoc (F := a :: l) (P := l) (b := a)
  unfold okB at h
  constructor
  · intro q
    have := h.1 ⟨q, fun b hb => by rcases List.mem_append.1 hb with h1 | h1; exact List.mem_cons_of_mem _ h1; simp at h1; rw [h1]; exact List.mem_cons_self⟩
    exact ⟨this.1.1, this.2.2⟩
  · rintro ⟨q1, q2⟩
    exact (h.2 ⟨⟨q1, fun b hb => List.mem_cons_of_mem _ hb⟩, List.mem_cons_self, q2⟩).1
/-- the numbers of the first i -/
def nosX (L : List XE) (i : Nat) : List Int := (L.take i).map (·.no)
theorem nosX_len {L : List XE} {i : Nat} (h : i ≤ L.length) : (nosX L i).length = i := by unfold nosX; rw [List.length_map, List.length_take, Nat.min_eq_left h]
theorem nosX_more {L : List XE} {i : Nat} (h : i < L.length) : nosX L (i + 1) = nosX L i ++ [(L.getD i xe0).no] := by
  unfold nosX
  rw [List.take_add_one, List.getElem?_eq_getElem h, getD_at h, List.map_append]
  rfl
theorem nosX_twice {L : List XE} {i : Nat} (h : ¬ (nosX L i).Nodup) : twiceX L := fun q => h (by
  unfold nosX
  rw [List.map_take]
  exact q.sublist (List.take_sublist _ _))
theorem nosX_all {L : List XE} : nosX L L.length = L.map (·.no) := by unfold nosX; rw [List.take_length]
theorem xlist_at {z : Nat} {U : Nat → UInt8} {l : List Nat} {i : Nat} (h : i < l.length) : (xlist z U l).getD i xe0 = xen z U (l.getD i 0) := by
  unfold xlist
  rw [List.getD_eq_getElem?_getD, List.getElem?_map, List.getElem?_eq_getElem h, List.getD_eq_getElem?_getD, List.getElem?_eq_getElem h]
  rfl
set_option maxHeartbeats 4000000 in
theorem specTwiceX_any {w : World} {n c q z E t c3 : Nat} {A A3 : Option Addr} {s : Nat → ByteArray} (l : List Nat) (hs : Sl w w.heap.size A n (fun i => .string (s i))) (hsz : ∀ i, i < n → (s i).size = z) (hr : Rw w q 30 #[.int .i64 n, .int .i64 z, .int .i64 E, .int .i64 t]) (hz8 : 8 ≤ z) (hz32 : z ≤ 32) (hn : n ≤ 128) (hE : E ≤ 32) (hfit : ∀ k, k < E → z + k * 16 + 16 ≤ n * z)
    (hl : Sl w w.heap.size A3 l.length (fun i => .int .i64 ((l.getD i 0 : Nat) : Int))) (hlen : l.length ≤ 32) (hmem : ∀ j, j < l.length → l.getD j 0 < E ∧ (xen z (joinU z s) (l.getD j 0)).st ≠ 0) (b : Bool) (hb : b = true ↔ twiceX (xlist z (joinU z s) l)) :
    Calls Tryz.prog 14 #[.slice A n c, .pointer (some ⟨q, 0, none⟩), .slice A3 l.length c3] w fun r w' => r = .returned (.bool b) ∧ Below w.heap.size w w' := by
  obtain ⟨U, hU⟩ : ∃ U, joinU z s = U := ⟨_, rfl⟩
  have HEA := Lib.hid (fun (W : World) (k : Nat) (hW : Below w.heap.size w W) (hk : k < E) (hst : (xen z U k).st ≠ 0) => (show Calls Tryz.prog 17 #[.slice A n c, .pointer (some ⟨q, 0, none⟩), .int .i64 k] W fun r w' => ∃ A5 c5, r = .returned (.tuple #[(xen z U k).val A5 c5, .bool true]) ∧ IntR W.heap.size w' A5 c5 (xen z U k).bl ∧ Below W.heap.size W w' by
    rw [← hU] at hst ⊢
    exact (specEntryX_any (c := c) ((hs.below hW).more hW.size) hsz (hr.below hW hr.lt) hz8 hz32 hn (hfit k hk)).mono fun r w' q => xEnt_good (v := xby z (joinU z s) k) q (xen_used hst)))
  rw [hU] at hmem hb
  unfold XE.val at HEA
  obtain ⟨L, hL⟩ : ∃ L, xlist z U l = L := ⟨_, rfl⟩
  have hLl : L.length = l.length := by rw [← hL, xlist_len]
  rw [hL] at hb
  have HL := Lib.hid hl
  have HME := Lib.hid hmem
  have HLL := Lib.hid hL
  have HLN := Lib.hid hLl
  have HB := Lib.hid hb
  have HN0 := Lib.hid (own_nilE w 2 1 w.heap.size (Nat.le_refl _))
  have HA0 := Lib.hid ((Below.refl w.heap.size w).alloc (Nat.le_refl _) (.cells #[] 2))
  clear hs hsz hr hl hmem hU hL hLl hb hfit
  go_enter Tryz.func14, Tryz.ntmps14
  go_upto_region 2 with fail
  generalize w.alloc (.cells #[] 2) = W0 at *
  go_wp2_with fail
  go_loopw [7, 8, 9, 10] (fun s7 s8 s9 s10 wr => ∃ (k c1 : Nat) (A1 : Option Addr), k ≤ l.length ∧ s8 = .int .i64 k ∧ s7 = .slice A1 k c1 ∧ wr.ownsRow w.heap.size 2 1 (.slice A1 k c1) k ((nosX L k).map (Value.int .i64)) ∧ (nosX L k).Nodup ∧ Below w.heap.size w wr) (fun _ k _ _ _ => l.length - (intOf k).toNat)
  case atStart => exact ⟨0, 0, _, Nat.zero_le _, rfl, rfl, HN0.out, List.nodup_nil, HA0.out⟩
  case round =>
    obtain ⟨k, c1, A1, hk, rfl, rfl, hir, hnd, hbr⟩ := hrel
    have hwr := hbr.size
    have HND := Lib.hid hnd
    by_cases hkl : k < l.length
    · obtain ⟨hkE, hst⟩ := HME.out k hkl
      obtain ⟨b3, o3, rfl, hb3, hc3⟩ := (HL.out.below hbr) k hkl
      dsimp only at hc3
      have hat := xlist_at (z := z) (U := U) hkl
      rw [HLL.out] at hat
      have hmo := nosX_more (L := L) (i := k) (by rw [HLN.out]; exact hkl)
      have hnl := nosX_len (L := L) (i := k) (by rw [HLN.out]; omega)
      rw [hat] at hmo
      obtain ⟨y, hy⟩ : ∃ y, l.getD k 0 = y := ⟨_, rfl⟩
      rw [hy] at hkE hst hc3 hmo
      have HCA := Lib.hid (HEA.out wr y hbr hkE hst)
      obtain ⟨e, he⟩ : ∃ e, xen z U y = e := ⟨_, rfl⟩
      rw [he] at HCA hmo
      have HMO := Lib.hid hmo
      have HNL := Lib.hid hnl
      have HIR := Lib.hid hir
      have HBR := Lib.hid hbr
      clear hy hkE hst he hmo hat hnl hir hbr hnd
      go_upto_region 6 with (go_at_call 17; refine HCA.out.mono ?_; rintro r w5 ⟨A5, c5, rfl, hi5, hb5⟩)
      have hr6 := Rw.new w5 38 #[.int .i64 e.st, .string e.nm, .int .i64 e.no, .int .i64 e.tl, .slice A5 e.bl.length c5]
      have hb6 := hb5.alloc hb5.size (.cells #[.int .i64 e.st, .string e.nm, .int .i64 e.no, .int .i64 e.tl, .slice A5 e.bl.length c5] 38)
      generalize w5.alloc (.cells #[.int .i64 e.st, .string e.nm, .int .i64 e.no, .int .i64 e.tl, .slice A5 e.bl.length c5] 38) = W6 at *
      have k2 := hr6.cell 2
      have hir6 : W6.ownsRow w.heap.size 2 1 (.slice A1 k c1) k ((nosX L k).map (Value.int .i64)) := own_below HIR.out hb6
      have hir6' : IntR w.heap.size W6 A1 c1 (nosX L k) := by unfold IntR; rw [HNL.out]; exact hir6
      have hsl6 := hir6'.sl
      have hB6 := HBR.out.trans (hb6.mono hwr)
      obtain ⟨v, hv⟩ : ∃ v : Bool, v = true ↔ e.no ∈ nosX L k := ⟨decide (e.no ∈ nosX L k), decide_eq_true_iff⟩
      have hha := l00Has_any (c := c1) (fun i => (nosX L k).getD i 0) e.no hsl6 (by rw [HNL.out]; omega)
      rw [hasI_mem _ _ v hv, HNL.out] at hha
      have HHA := Lib.hid hha
      have HI6 := Lib.hid hir6
      have HB6 := Lib.hid hB6
      have HV := Lib.hid hv
      have hz6 := hB6.size
      clear hi5 hb5 hb6 hr6 hir6 hir6' hsl6 hB6 hv hha
      cases v with
      | true =>
        have hbt : b = true := HB.out.2 (nosX_twice (i := k + 1) (by rw [HMO.out]; exact fun q => (nodup_snoc.1 q).2 (HV.out.1 rfl)))
        subst hbt
        go_wp2_with (go_at_call 32; refine HHA.out.mono ?_; rintro r w7 ⟨rfl, hw7⟩; rw [← hw7]; clear hw7 w7)
        go_ret
        exact ⟨rfl, HB6.out⟩
      | false =>
        go_upto_region 8 with (go_at_call 32; refine HHA.out.mono ?_; rintro r w7 ⟨rfl, hw7⟩; rw [← hw7]; clear hw7 w7)
        go_wp2_with (at_builtin; refine wpList_pushN (.tmp 32) (.tmp 35) 33 w.heap.size 2 (.int .i64 0) [.int .i64 e.no] 1 8 _ k _ HI6.out rfl rfl Tryz.underlying33 infoIX rfl (by omega) rfl rfl rfl rfl (by intro u hu; simp at hu; subst hu; rfl) (by omega) (by omega) hz6 ?_; intro A4 c4 w4 ho4 hg4)
        go_roundw
        case rel =>
          refine ⟨k + 1, c4, some A4, by omega, by go_num, rfl, ?_, ?_, HB6.out.grown hg4 hz6 (fun j hj => own_lt HI6.out j hj)⟩
          · rw [HMO.out, List.map_append]; exact ho4
          · rw [HMO.out]
            exact nodup_snoc.2 ⟨HND.out, fun q => by have := HV.out.2 q; cases this⟩
        case measure => simp [intOf]; omega
    · obtain rfl : k = l.length := by omega
      have hbf : b = false := by
        rw [Bool.eq_false_iff]
        intro q
        have h1 := HB.out.1 q
        have h2 := HND.out
        rw [← HLN.out, nosX_all] at h2
        exact h1 h2
      subst hbf
      go_wp2_with fail
      go_ret
      exact ⟨rfl, hbr⟩
/-- the blocks from S to T stay -/
def Mid (S T : Nat) (w w' : World) : Prop := ∀ q, S ≤ q → q < T → w'.heap[q]? = w.heap[q]?
theorem Mid.refl (S T : Nat) (w : World) : Mid S T w w := fun _ _ _ => rfl
theorem Mid.grown {S T : Nat} {w a b : World} {row : Option Nat} (h : Mid S T w a) (hg : a.grownBy b row) (hT : T ≤ a.heap.size) (hr : ∀ o, row = some o → o < S ∨ T ≤ o) : Mid S T w b := fun q h1 h2 =>
  (hg.block q (by omega) (fun e => by rcases hr q e.symm with h3 | h3 <;> omega)).trans (h q h1 h2)
theorem Mid.cell {S T : Nat} {w a : World} (h : Mid S T w a) {p : Addr} (h1 : S ≤ p.block) (h2 : p.block < T) : a.cell? p = w.cell? p := World.cell?_of_block (w := w) (h p.block h1 h2)
theorem okB_cut {F : List Int} {D : List XE} {i k : Nat} {e : XE} {y : Int} (hi : i < D.length) (he : D.getD i xe0 = e) (hk : k < e.bl.length) (hy : e.bl.getD k 0 = y) (h : ¬ (y ∈ F ∧ y ∉ blsD (D.take i) ++ e.bl.take k)) : ¬ okB F (blsD D) := by
  subst hy
  exact okB_stop hi he hk h
set_option maxHeartbeats 8000000 in
theorem specWholeX_any {w : World} {n c q z E t c3 : Nat} {A A3 : Option Addr} {s : Nat → ByteArray} (l : List Nat) (hs : Sl w w.heap.size A n (fun i => .string (s i))) (hsz : ∀ i, i < n → (s i).size = z) (hr : Rw w q 30 #[.int .i64 n, .int .i64 z, .int .i64 E, .int .i64 t]) (hz8 : 8 ≤ z) (hz32 : z ≤ 32) (hn : n ≤ 128) (hn1 : 1 ≤ n) (hE : E ≤ 32) (hfit : ∀ k, k < E → z + k * 16 + 16 ≤ n * z) (ht : t ≤ n)
    (hl : Sl w w.heap.size A3 l.length (fun i => .int .i64 ((l.getD i 0 : Nat) : Int))) (hlen : l.length ≤ 32) (hmem : ∀ j, j < l.length → l.getD j 0 < E ∧ (xen z (joinU z s) (l.getD j 0)).st ≠ 0) (b : Bool) (hb : b = true ↔ (∀ k, k < (xlist z (joinU z s) l).length → okS n t z (xlist z (joinU z s) l) k) ∧ okB (freeI z (joinU z s) E t (n - t)) (blsD (xlist z (joinU z s) l))) :
    Calls Tryz.prog 15 #[.slice A n c, .pointer (some ⟨q, 0, none⟩), .slice A3 l.length c3] w fun r w' => r = .returned (.bool b) ∧ Below w.heap.size w w' := by
  obtain ⟨U, hU⟩ : ∃ U, joinU z s = U := ⟨_, rfl⟩
  have HRD := Lib.hid (fun (W : World) (hW : Below w.heap.size w W) => specReadX_any (c := c) (c3 := c3) l ((hs.below hW).more hW.size) hsz (hr.below hW hr.lt) hz8 hz32 hn hn1 hE hfit ((hl.below hW).more hW.size) hlen hmem)
  have HFR := Lib.hid (specFreeX_any (c := c) hs hsz hr hz8 hz32 hn hE hfit ht)
  have HEA := Lib.hid (fun (W : World) (k : Nat) (hW : Below w.heap.size w W) (hk : k < E) (hst : (xen z U k).st ≠ 0) => (show Calls Tryz.prog 17 #[.slice A n c, .pointer (some ⟨q, 0, none⟩), .int .i64 k] W fun r w' => ∃ A5 c5, r = .returned (.tuple #[(xen z U k).val A5 c5, .bool true]) ∧ IntR W.heap.size w' A5 c5 (xen z U k).bl ∧ Below W.heap.size W w' by
    rw [← hU] at hst ⊢
    exact (specEntryX_any (c := c) ((hs.below hW).more hW.size) hsz (hr.below hW hr.lt) hz8 hz32 hn (hfit k hk)).mono fun r w' q => xEnt_good (v := xby z (joinU z s) k) q (xen_used hst)))
  rw [hU] at hmem hb HRD HFR
  have hx4 : ∀ k, (xen z U k).bl.length ≤ 4 := fun k => XE.ok_len (xen_ok z U k)
  have HX4 := Lib.hid hx4
  unfold XE.val at HEA
  unfold RdRet at HRD
  obtain ⟨L, hL⟩ : ∃ L, xlist z U l = L := ⟨_, rfl⟩
  obtain ⟨F, hF⟩ : ∃ F, freeI z U E t (n - t) = F := ⟨_, rfl⟩
  obtain ⟨FL, hFL⟩ : ∃ FL, freeX z U E t (n - t) = FL := ⟨_, rfl⟩
  have hfl := freeX_len z U E t (n - t)
  have hFI : F = FL.map (fun (k : Nat) => (k : Int)) := by rw [← hF, ← hFL]; rfl
  rw [hFL] at HFR hfl
  have hLl : L.length = l.length := by rw [← hL, xlist_len]
  have hbl4 : (blsD L).length ≤ 4 * 32 := by
    have := blsD_len (D := L) (fun e he => by
      rw [← hL] at he
      unfold xlist at he
      obtain ⟨j, _, rfl⟩ := List.mem_map.1 he
      exact hx4 j)
    omega
  rw [hL, hF] at hb
  rw [hL] at HRD
  have HL := Lib.hid hl
  have HME := Lib.hid hmem
  have HLL := Lib.hid hL
  have HLN := Lib.hid hLl
  have HB := Lib.hid hb
  have HFI := Lib.hid hFI
  clear hs hsz hr hl hmem hU hL hLl hb hfit hF hFL hFI hx4
  go_enter Tryz.func15, Tryz.ntmps15
  go_upto_region 2 with (go_at_call 33; refine HFR.out.mono ?_; rintro r w1 ⟨A1, c1, rfl, hna, hb1⟩)
  have hfr : IntR w.heap.size w1 A1 c1 F := by
    unfold IntR
    unfold NatR at hna
    rw [HFI.out, List.length_map, List.map_map]
    exact hna
  have hFl : F.length = FL.length := by rw [HFI.out, List.length_map]
  rw [← hFl]
  have HFRW := Lib.hid hfr
  have HB1 := Lib.hid hb1
  have HN0 := Lib.hid (own_nilE w1 2 1 w1.heap.size (Nat.le_refl _))
  have HA0 := Lib.hid ((Below.refl w1.heap.size w1).alloc (Nat.le_refl _) (.cells #[] 2))
  have hF128 : F.length ≤ 128 := by omega
  clear hna hfr hb1 hFl hfl HFI
  go_upto_region 3 with fail
  generalize w1.alloc (.cells #[] 2) = W0 at *
  go_wp2_with fail
  go_loopw [8, 9, 10, 11, 12] (fun s8 s9 s10 s11 s12 wr => ∃ (k c2 : Nat) (A2 : Option Addr), k ≤ l.length ∧ s9 = .int .i64 k ∧ s8 = .slice A2 (blsD (L.take k)).length c2 ∧ IntR w1.heap.size wr A2 c2 (blsD (L.take k)) ∧ okB F (blsD (L.take k)) ∧ Below w1.heap.size w1 wr) (fun _ k _ _ _ _ => l.length - (intOf k).toNat)
  case atStart => exact ⟨0, 0, _, Nat.zero_le _, rfl, rfl, HN0.out, okB_nil _, HA0.out⟩
  case round =>
    obtain ⟨k, c2, A2, hk, rfl, rfl, hir, hob, hbr⟩ := hrel
    have HOB := Lib.hid hob
    have hwr := hbr.size
    have hw1 := HB1.out.size
    have hball := HB1.out.trans (hbr.mono hw1)
    clear hob
    by_cases hkl : k < l.length
    · obtain ⟨hkE, hst⟩ := HME.out k hkl
      obtain ⟨b3, o3, rfl, hb3, hc3⟩ := (HL.out.below hball) k hkl
      dsimp only at hc3
      have hat := xlist_at (z := z) (U := U) hkl
      rw [HLL.out] at hat
      obtain ⟨y, hy⟩ : ∃ y, l.getD k 0 = y := ⟨_, rfl⟩
      rw [hy] at hkE hst hc3 hat
      have hx4 := HX4.out y
      have HCA := Lib.hid (HEA.out wr y hball hkE hst)
      obtain ⟨e, he⟩ : ∃ e, xen z U y = e := ⟨_, rfl⟩
      rw [he] at HCA hat hx4
      have HAT := Lib.hid hat
      obtain ⟨P, hP⟩ : ∃ P, blsD (L.take k) = P := ⟨_, rfl⟩
      have hPl : P.length ≤ 128 := by
        obtain ⟨Q, hQ⟩ := blsD_take (D := L) (i := k)
        rw [hQ, List.length_append, hP] at hbl4
        omega
      rw [hP] at hir HOB ⊢
      have HP := Lib.hid hP
      obtain ⟨ml, hml⟩ : ∃ ml, e.bl.length = ml := ⟨_, rfl⟩
      rw [hml] at HCA hx4
      have HML := Lib.hid hml
      have HIR := Lib.hid hir
      have HBR := Lib.hid hbr
      clear hy hkE hst he hat hir hbr hball hP hml
      go_upto_region 7 with (go_at_call 17; refine HCA.out.mono ?_; rintro r w5 ⟨A5, c5, rfl, hi5, hb5⟩)
      have hr6 := Rw.new w5 38 #[.int .i64 e.st, .string e.nm, .int .i64 e.no, .int .i64 e.tl, .slice A5 ml c5]
      have hb6 := hb5.alloc hb5.size (.cells #[.int .i64 e.st, .string e.nm, .int .i64 e.no, .int .i64 e.tl, .slice A5 ml c5] 38)
      have hi6 := hi5.below ((Below.refl w5.heap.size w5).alloc (Nat.le_refl _) (.cells #[.int .i64 e.st, .string e.nm, .int .i64 e.no, .int .i64 e.tl, .slice A5 ml c5] 38))
      generalize w5.alloc (.cells #[.int .i64 e.st, .string e.nm, .int .i64 e.no, .int .i64 e.tl, .slice A5 ml c5] 38) = W6 at *
      obtain ⟨qx, hqx⟩ : ∃ qx, w5.heap.size = qx := ⟨_, rfl⟩
      rw [hqx] at hr6 ⊢
      have hqS : wr.heap.size ≤ qx := by rw [← hqx]; exact hb5.size
      have hqT := hr6.lt
      have k4 := hr6.cell 4
      have HI6 := Lib.hid (hi6.sl)
      have HLO := Lib.hid (own_lt hi6)
      have HIR6 := Lib.hid (HIR.out.below hb6)
      have HOW := Lib.hid (fun o ho => own_hi HIR.out o ho)
      have HB6 := Lib.hid (HBR.out.trans (hb6.mono hwr))
      have K4 := Lib.hid k4
      obtain ⟨S, hS⟩ : ∃ S, wr.heap.size = S := ⟨_, rfl⟩
      obtain ⟨T, hT⟩ : ∃ T, W6.heap.size = T := ⟨_, rfl⟩
      rw [hS] at hqS HLO HOW hwr
      rw [hT] at hqT HI6
      have HTS := Lib.hid hT
      clear hi5 hb5 hb6 hi6 hr6 hqx k4 hS hT
      go_wp2_with fail
      go_loopw [8, 12] (fun s8 s12 wq => ∃ (i c6 m6 : Nat) (A6 : Option Addr) (R : List Int), i ≤ ml ∧ s12 = .int .i64 i ∧ s8 = .slice A6 m6 c6 ∧ R = P ++ e.bl.take i ∧ R.length = m6 ∧ wq.ownsRow w1.heap.size 2 1 (.slice A6 m6 c6) m6 (R.map (Value.int .i64)) ∧ (∀ o, (Value.slice A6 m6 c6).ownBlock = some o → o < S ∨ T ≤ o) ∧ okB F R ∧ Mid S T W6 wq ∧ T ≤ wq.heap.size ∧ Below w1.heap.size w1 wq) (fun _ i _ => ml - (intOf i).toNat)
      case atStart => exact ⟨0, c2, P.length, A2, P, Nat.zero_le _, rfl, rfl, by simp, rfl, HIR6.out, fun o ho => .inl (HOW.out o ho), HOB.out, Mid.refl _ _ _, by rw [HTS.out]; exact Nat.le_refl _, HB6.out⟩
      case round =>
        obtain ⟨i, c6, m6, A6, R, hi, rfl, rfl, hR, hm6, hir, how, hokk, hmid, hTw, hbq⟩ := hrel
        have x4 := (hmid.cell (p := ⟨qx, 4, none⟩) hqS hqT).trans K4.out
        have HOKK := Lib.hid hokk
        have HMID := Lib.hid hmid
        have HOWK := Lib.hid how
        have HBQ := Lib.hid hbq
        have HRR := Lib.hid hR
        have HM6 := Lib.hid hm6
        have hbq2 := hbq.size
        have HBA := Lib.hid (HB1.out.trans (hbq.mono HB1.out.size))
        have hPT : m6 ≤ 160 := by rw [← hm6, hR, List.length_append, List.length_take]; omega
        clear hokk how hR hm6
        by_cases him : i < ml
        · obtain ⟨b5, o5, rfl, hb5l, hc5⟩ := HI6.out i (by rw [HML.out]; exact him)
          have hb5S : S ≤ b5 := HLO.out b5 rfl
          have hc5' := (hmid.cell (p := ⟨b5, o5 + i, none⟩) hb5S hb5l).trans hc5
          dsimp only at hc5'
          have htk := take_moreI (l := e.bl) (j := i) (by rw [HML.out]; exact him)
          obtain ⟨y2, hy2⟩ : ∃ y2, e.bl.getD i 0 = y2 := ⟨_, rfl⟩
          rw [hy2] at hc5' htk
          have hcut := fun q => okB_cut (F := F) (y := y2) (by rw [HLN.out]; exact hkl) HAT.out (by rw [HML.out]; exact him) hy2 q
          rw [HP.out, ← HRR.out] at hcut
          have htk2 : P ++ e.bl.take (i + 1) = R ++ [y2] := by rw [htk, ← List.append_assoc, ← HRR.out]
          have HCUT := Lib.hid hcut
          have HTK := Lib.hid htk2
          obtain ⟨v1, hv1⟩ : ∃ v : Bool, v = true ↔ y2 ∈ F := ⟨decide (y2 ∈ F), decide_eq_true_iff⟩
          obtain ⟨v2, hv2⟩ : ∃ v : Bool, v = true ↔ y2 ∈ R := ⟨decide (y2 ∈ R), decide_eq_true_iff⟩
          have hirR : IntR w1.heap.size wr A6 c6 R := by unfold IntR; rw [HM6.out]; exact hir
          have hh1 := l00Has_any (c := c1) (fun i => F.getD i 0) y2 ((HFRW.out.below hbq).sl) (by omega)
          have hh2 := l00Has_any (c := c6) (fun j => R.getD j 0) y2 hirR.sl (by rw [HM6.out]; omega)
          rw [hasI_mem _ _ v1 hv1] at hh1
          rw [hasI_mem _ _ v2 hv2, HM6.out] at hh2
          have HH1 : Hid (∀ X : Value, X = .slice A1 F.length c1 → Calls Tryz.prog 32 #[X, .int .i64 y2] wr fun e w' => e = .returned (.bool v1) ∧ wr = w') := Lib.hid (fun X hX => by subst hX; exact hh1)
          have HH2 : Hid (∀ X : Value, X = .slice A6 m6 c6 → Calls Tryz.prog 32 #[X, .int .i64 y2] wr fun e w' => e = .returned (.bool v2) ∧ wr = w') := Lib.hid (fun X hX => by subst hX; exact hh2)
          have HV1 := Lib.hid hv1
          have HV2 := Lib.hid hv2
          have HIK := Lib.hid hir
          clear hh1 hh2 hv1 hv2 hcut htk htk2 hy2 hc5 hir hirR hbq hmid
          cases v1 with
          | false =>
            have hbf : b = false := by
              rw [Bool.eq_false_iff]
              exact fun q => HCUT.out (fun q2 => by have := HV1.out.2 q2.1; cases this) (HB.out.1 q).2
            subst hbf
            go_wp2_with (go_at_call 32; refine (HH1.out _ (by with_reducible rfl)).mono ?_; rintro r w7 ⟨rfl, hw7⟩; rw [← hw7]; clear hw7 w7)
            go_ret
            exact ⟨rfl, HBA.out⟩
          | true =>
            cases v2 with
            | true =>
              have hbf : b = false := by
                rw [Bool.eq_false_iff]
                exact fun q => HCUT.out (fun q2 => q2.2 (HV2.out.1 rfl)) (HB.out.1 q).2
              subst hbf
              go_wp2_with (first
                | (go_at_call 32; refine (HH1.out _ (by with_reducible rfl)).mono ?_; rintro r w7 ⟨rfl, hw7⟩; rw [← hw7]; clear hw7 w7)
                | (go_at_call 32; refine (HH2.out _ (by with_reducible rfl)).mono ?_; rintro r w7 ⟨rfl, hw7⟩; rw [← hw7]; clear hw7 w7))
              go_ret
              exact ⟨rfl, HBA.out⟩
            | false =>
              go_upto_region 12 with (first
                | (go_at_call 32; refine (HH1.out _ (by with_reducible rfl)).mono ?_; rintro r w7 ⟨rfl, hw7⟩; rw [← hw7]; clear hw7 w7)
                | (go_at_call 32; refine (HH2.out _ (by with_reducible rfl)).mono ?_; rintro r w7 ⟨rfl, hw7⟩; rw [← hw7]; clear hw7 w7))
              go_wp2_with (at_builtin; refine wpList_pushO (.tmp 59) (.tmp 65) 33 w1.heap.size 2 (.int .i64 0) [.int .i64 y2] 1 8 _ m6 _ HIK.out rfl rfl Tryz.underlying33 infoIX rfl (by omega) rfl rfl rfl rfl (by intro u hu; simp at hu; subst hu; rfl) (by omega) (by omega) hbq2 ?_; intro A4 c4 w4 ho4 hg4 hf4)
              go_roundw
              case rel =>
                refine ⟨i + 1, c4, m6 + 1, some A4, R ++ [y2], by omega, by go_num, rfl, HTK.out.symm, by rw [List.length_append, HM6.out]; rfl, ?_, ?_, okB_snoc.2 ⟨HOKK.out, by first | exact HV1.out.1 rfl | exact HV1.out.1 trivial, fun q => by have := HV2.out.2 q; cases this⟩, HMID.out.grown hg4 hTw (fun o ho => HOWK.out o ho), Nat.le_trans hTw hg4.size, HBQ.out.grown hg4 hbq2 (fun j hj => own_lt HIK.out j hj)⟩
                · rw [List.map_append]
                  exact ho4
                · intro o ho
                  rcases hf4 o ho with h | h
                  · exact HOWK.out o h
                  · right; omega
              case measure => simp [intOf]; omega
        · obtain rfl : i = ml := by omega
          have hmo := blsD_more (D := L) (i := k) (by rw [HLN.out]; exact hkl) HAT.out
          rw [HP.out] at hmo
          have HMO := Lib.hid hmo
          have HIK := Lib.hid hir
          clear hmo hir hmid hbq
          go_wp2_with fail
          go_roundw
          case rel =>
            have h3 : R = blsD (L.take (k + 1)) := by rw [HRR.out, HMO.out, ← HML.out, List.take_length]
            have h1 := HIK.out
            have h2 := HOKK.out
            rw [h3] at h1 h2
            have h4 : (blsD (L.take (k + 1))).length = m6 := by rw [← h3]; exact HM6.out
            exact ⟨k + 1, c6, A6, by omega, by go_num, by rw [h4], by unfold IntR; rw [h4]; exact h1, h2, HBQ.out⟩
          case measure => simp [intOf]; omega
    · obtain rfl : k = l.length := by omega
      have HRR := Lib.hid (HRD.out _ hball)
      have hbb : b = true ↔ ∀ k, k < L.length → okS n t z L k := by
        rw [HB.out]
        have := HOB.out
        rw [← HLN.out, List.take_length] at this
        exact ⟨fun q => q.1, fun q => ⟨q, this⟩⟩
      have HBB := Lib.hid hbb
      have HBA := Lib.hid hball
      clear hbb hball hir hbr
      cases b with
      | true =>
        have hok := HBB.out.1 rfl
        have HOK := Lib.hid hok
        clear hok
        go_wp2_with (go_at_call 34; refine HRR.out.mono ?_; rintro r w4 ⟨hb4, h5, _⟩; obtain rfl := h5 HOK.out)
        go_ret
        exact ⟨rfl, HBA.out.trans (hb4.mono HBA.out.size)⟩
      | false =>
        have hok : ¬ ∀ k, k < L.length → okS n t z L k := fun q => by
          have := HBB.out.2 q
          cases this
        have HOK := Lib.hid hok
        clear hok
        go_wp2_with (go_at_call 34; refine HRR.out.mono ?_; rintro r w4 ⟨hb4, _, h5⟩; obtain rfl := h5 HOK.out)
        go_ret
        exact ⟨rfl, HBA.out.trans (hb4.mono HBA.out.size)⟩
end Go.Proofs.YtmgcaiilocifbaaGreatDoor
