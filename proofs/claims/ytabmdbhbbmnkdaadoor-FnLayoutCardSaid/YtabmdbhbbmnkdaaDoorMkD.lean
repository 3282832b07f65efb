/-
  Marks: the reference's marks of a track (l07Marks, FindMarks).
-/
import Derived.Test.YtabmdbhbbmnkdaaDoorMkC
import Derived.Test.YtabmdbhbbmnkdaaDoorBsX
namespace Go.Proofs.YtabmdbhbbmnkdaaDoor
open Go Go.ChangeShapes Go.WideShapes Go.ChangeAt Go.RowKit Go.Joins lib
set_option linter.unusedVariables false
set_option linter.unusedSimpArgs false
set_option maxRecDepth 100000
def puts (o l : List Mk) : List Mk := l.foldl (fun o m => putM m o) o
theorem puts_len : ∀ (l o : List Mk), (puts o l).length = o.length + l.length
  | [], o => rfl
  | x :: r, o => by
    show (puts (putM x o) r).length = _
    rw [puts_len r, putM_len, List.length_cons]
    omega
theorem puts_succ (o l : List Mk) (i : Nat) (h : i < l.length) : puts o (l.take (i + 1)) = putM l[i] (puts o (l.take i)) := by
  unfold puts
  rw [List.take_succ_eq_append_getElem h, List.foldl_append]
  rfl
def markP (f k : Nat) : List UInt8 := if f = 3 then (markL 3 k).drop 10 else markL f k
/-- the marks of one kind -/
def foundU (f : Nat) (c : List UInt8) (k : Nat) : List Mk :=
  if (markP f k).length > c.length then [] else if f = 3 then (syncU c c.length).flatMap fun s => if fitsU c (markP f k) (s.1 + s.2) then [⟨k, s.1, (s.1 + s.2 + (markP f k).length) % c.length⟩] else []
  else (findU c (markP f k) c.length).map fun a => ⟨k, a, (a + (markP f k).length) % c.length⟩
def marksK (f : Nat) (c : List UInt8) : Nat → List Mk
  | 0 => []
  | k + 1 => puts (marksK f c k) (foundU f c (k + 1))
theorem flat1_len {α β : Type} (g : α → List β) (h : ∀ x, (g x).length ≤ 1) : ∀ l : List α, (l.flatMap g).length ≤ l.length
  | [] => by simp
  | x :: r => by
    rw [List.flatMap_cons, List.length_append, List.length_cons]
    have := flat1_len g h r
    have := h x
    omega
theorem foundU_len (f : Nat) (c : List UInt8) (k : Nat) : (foundU f c k).length ≤ c.length := by
  unfold foundU
  split
  · simp
  · split
    · refine Nat.le_trans (flat1_len _ (fun s => ?_) _) (syncU_len c _)
      split <;> simp
    · rw [List.length_map]
      exact findU_len c _ _
theorem marksK_len (f : Nat) (c : List UInt8) : ∀ k, (marksK f c k).length ≤ k * c.length
  | 0 => by simp [marksK]
  | k + 1 => by
    rw [marksK, puts_len]
    have := marksK_len f c k
    have := foundU_len f c (k + 1)
    rw [Nat.add_mul]
    omega
theorem markP_len (f k : Nat) (hf : f123 f) (hk : f123 k) : (markP f k).length = if f = 1 then 16 else if f = 2 then 64 else 10 := by
  rcases hf with rfl | rfl | rfl <;> rcases hk with rfl | rfl | rfl <;> rfl
theorem l07Put_at {w : World} {B ga c' q : Nat} {L : List Mk} (m : Mk) (x y z : Int) (hx : x = (m.kd : Nat)) (hy : y = (m.at' : Nat)) (hz : z = (m.bd : Nat)) (h : w.ownsRow B 46 3 (.slice (some ⟨ga, 0, none⟩) q c') q (mksV L)) (hq : L.length = q) (hl : q ≤ 1048576) :
    Calls Tryd.prog 68 #[.slice (some ⟨ga, 0, none⟩) q c', .agg #[.int .i64 x, .int .i64 y, .int .i64 z]] w fun r w' => ∃ g2 c2, r = .returned (.slice (some ⟨g2, 0, none⟩) (q + 1) c2) ∧ w'.ownsRow w.heap.size 46 3 (.slice (some ⟨g2, 0, none⟩) (q + 1) c2) (q + 1) (mksV (putM m L)) ∧ Below w.heap.size w w' := by
  subst hx; subst hy; subst hz; subst hq
  refine (l07Put_any m h hl).mono ?_
  rintro r w' ⟨g2, c2, h1, h2, h3⟩
  unfold MkR at h2
  rw [putM_len] at h1 h2
  exact ⟨g2, c2, h1, h2, h3⟩
def MarksOut (f : Nat) (c : List UInt8) (w w' : World) (e : Ending) : Prop := ∃ g2 c2, e = .returned (.slice (some ⟨g2, 0, none⟩) (marksK f c 3).length c2) ∧ MkR w.heap.size w' (some ⟨g2, 0, none⟩) c2 (marksK f c 3) ∧ Below w.heap.size w w'
set_option maxHeartbeats 8000000 in
theorem marks12_any (f : Nat) (hf : f = 1 ∨ f = 2) (c : List UInt8) (hn : 1 ≤ c.length) (hm : c.length ≤ 8000) (x : Int) (hx : x = f) (w : World) : Calls Tryd.prog 34 #[.string (strL c), .int .i64 x] w fun e w' => MarksOut f c w w' e := by
  have hf3 : f123 f := by rcases hf with rfl | rfl <;> simp [f123]
  have hx1 : 1 ≤ x := by omega
  have hx2 : x ≤ 2 := by omega
  have HSY := Lib.hid (fun W => l07Syncs_any c hn hm W)
  have HMK := Lib.hid (fun (k : Nat) (hk : f123 k) (y : Int) (hy : y = k) (W : World) => specMark_any f k hf3 hk x y hx hy W)
  have HFI := Lib.hid (fun (k : Nat) (hk : f123 k) (W : World) => l07Find_any c (markL f k) hn hm (by have := markP_len f k hf3 hk; unfold markP at this; rw [if_neg (by omega)] at this; rw [this]; split <;> (try split) <;> omega) W)
  have HML := Lib.hid (fun (k : Nat) => marksK_len f c k)
  have HFL := Lib.hid (fun (k : Nat) => foundU_len f c k)
  have HMS := Lib.hid (fun k => show marksK f c (k + 1) = puts (marksK f c k) (foundU f c (k + 1)) from rfl)
  have HFU := Lib.hid (fun (k : Nat) => show foundU f c k = if (markL f k).length > c.length then [] else (findU c (markL f k) c.length).map fun a => ⟨k, a, (a + (markL f k).length) % c.length⟩ by
    unfold foundU markP
    rw [if_neg (show ¬ f = 3 by omega), if_neg (show ¬ f = 3 by omega)])
  have HPL := Lib.hid (fun (k : Nat) (hk : f123 k) => show (markL f k).length ≤ 64 by
    have := markP_len f k hf3 hk; unfold markP at this; rw [if_neg (by omega)] at this; rw [this]; split <;> (try split) <;> omega)
  have hsz : (strL c).size = c.length := strL_size c
  have hx3 : (x = 3) = False := by simp; omega
  have hx3b : (x == 3) = false := by simp; omega
  have hx3c : (x != 3) = true := by simp; omega
  unfold MarksOut
  clear hx hf hf3 hx1 hx2
  go_enter Tryd.func34, Tryd.ntmps34
  have HNE := Lib.hid (own_nilE w 46 3 w.heap.size (Nat.le_refl _))
  have HBN := Lib.hid ((Below.refl w.heap.size w).alloc (Nat.le_refl _) (.cells #[] 46))
  go_upto_region 4 with (go_at_call 65; refine (HSY.out _).mono ?_; rintro e w1 ⟨A1, c1, rfl, ho1, hb1⟩; have HO1 := Lib.hid (own_below HNE.out hb1); have HB1 := Lib.hid (HBN.out.trans (hb1.mono HBN.out.size)); clear ho1 hb1)
  have hz1 := HB1.out.size
  obtain ⟨S, hS⟩ : ∃ S, strL c = S := ⟨_, rfl⟩
  obtain ⟨n, hn'⟩ : ∃ n, c.length = n := ⟨_, rfl⟩
  rw [hS] at HFI
  unfold FindOut at HFI
  rw [hS, hn'] at hsz
  rw [hn'] at HFI HFL HML HFU hn hm
  rw [hn', hS]
  clear hn' hS HNE HBN HSY
  obtain ⟨ns, hns⟩ : ∃ ns, (syncU c n).length = ns := ⟨_, rfl⟩
  rw [hns]
  clear hns
  go_wp2_with fail
  go_loopw [6, 8] (fun s6 s8 wr => ∃ (k m g2 c2 : Nat), k ≤ 3 ∧ (marksK f c k).length = m ∧ s8 = .int .i64 ((k + 1 : Nat) : Int) ∧ s6 = .slice (some ⟨g2, 0, none⟩) m c2 ∧ wr.ownsRow w.heap.size 46 3 (.slice (some ⟨g2, 0, none⟩) m c2) m (mksV (marksK f c k)) ∧ Below w.heap.size w wr) (fun _ s8 _ => 5 - (intOf s8).toNat)
  case atStart => exact ⟨0, 0, w.heap.size, 0, by omega, rfl, rfl, rfl, HO1.out, HB1.out⟩
  case round =>
    obtain ⟨k, m, g2, c2, hk, hm2, rfl, rfl, ho, hb⟩ := hrel
    have HM := Lib.hid hm2
    have HO := Lib.hid ho
    have HB := Lib.hid hb
    have hz := hb.size
    have hml : m ≤ 24000 := by
      have := HML.out k
      rw [hm2] at this
      exact Nat.le_trans this (Nat.mul_le_mul hk hm)
    clear hm2 ho hb
    by_cases hlt : k < 3
    · have hk3 : f123 (k + 1) := by unfold f123; omega
      have HMS1 := Lib.hid (HMS.out k)
      have HMK1 := Lib.hid (fun W => HMK.out (k + 1) hk3 ((k + 1 : Nat) : Int) rfl W)
      have HFI1 := Lib.hid (fun W => HFI.out (k + 1) hk3 W)
      have HFU1 := Lib.hid (HFU.out (k + 1))
      have HFL1 := Lib.hid (HFL.out (k + 1))
      have hp64 := HPL.out (k + 1) hk3
      have hszp : (strL (markL f (k + 1))).size = (markL f (k + 1)).length := strL_size _
      obtain ⟨y, hy⟩ : ∃ y, k + 1 = y := ⟨_, rfl⟩
      rw [hy] at HMS1 HMK1 HFI1 HFU1 HFL1 hp64 hszp
      rw [hy]
      have HY := Lib.hid hy
      have hyi : (y : Int) ≤ 3 := by omega
      obtain ⟨p, hp⟩ : ∃ p, markL f y = p := ⟨_, rfl⟩
      rw [hp] at HMK1 HFI1 HFU1 hp64 hszp
      obtain ⟨PS, hPS⟩ : ∃ PS, strL p = PS := ⟨_, rfl⟩
      rw [hPS] at HMK1 HFI1 hszp
      obtain ⟨sz, hsz2⟩ : ∃ sz, p.length = sz := ⟨_, rfl⟩
      rw [hsz2] at HFU1 hp64 hszp
      clear hy hp hPS hsz2 hk3
      by_cases hbig : n < sz
      · have HE := Lib.hid (show foundU f c y = [] by rw [HFU1.out, if_pos hbig])
        have hbi : (n : Int) < (sz : Int) := by omega
        go_wp2_with (go_at_call 66; refine (HMK1.out _).mono ?_; rintro e w2 ⟨rfl, hb2⟩)
        refine ⟨⟨k + 1, m, g2, c2, by omega, by rw [HY.out, HMS1.out, HE.out]; exact HM.out, by have := HY.out; go_num, rfl, by rw [HY.out, HMS1.out, HE.out]; exact own_below HO.out hb2, HB.out.trans (hb2.mono hz)⟩, by have := HY.out; simp [intOf] <;> omega⟩
      · have HE := Lib.hid (show foundU f c y = (findU c p n).map fun a => ⟨y, a, (a + sz) % n⟩ by rw [HFU1.out, if_neg hbig])
        have hbi : ¬ (n : Int) < (sz : Int) := by omega
        have hnz : ((n : Int) = 0) = False := by simp; omega
        go_upto_region 14 with (first
          | (go_at_call 66; refine (HMK1.out _).mono ?_; rintro e w2 ⟨rfl, hb2⟩)
          | (go_at_call 67; refine (HFI1.out _).mono ?_; rintro e w3 ⟨A3, c3, rfl, ho3, hb3⟩))
        have hb23 := hb2.trans (hb3.mono hb2.size)
        have HO3 := Lib.hid (own_below HO.out hb23)
        have HB3 := Lib.hid (HB.out.trans (hb23.mono hz))
        have HSL := Lib.hid (own_sl ho3)
        have HFE := Lib.hid (findU_len c p n)
        have HFG := Lib.hid (fun (j : Nat) (hj : j < (findU c p n).length) => show (natV (findU c p n)).getD j undef = .int .i64 (((findU c p n).getD j 0 : Nat) : Int) by
          unfold natV
          simp [List.getD_eq_getElem?_getD, hj])
        have HFB := Lib.hid (fun (j : Nat) (hj : j < (findU c p n).length) => show (findU c p n).getD j 0 < n by
          have : (findU c p n)[j] ∈ findU c p n := List.getElem_mem hj
          unfold findU at this ⊢
          rw [List.mem_filter, List.mem_range] at this
          rw [List.getD_eq_getElem?_getD, List.getElem?_eq_getElem (by simpa [findU] using hj)]
          exact this.1)
        have hz3 := HB3.out.size
        obtain ⟨F, hF⟩ : ∃ F, findU c p n = F := ⟨_, rfl⟩
        rw [hF] at HE HSL HFE HFG HFB
        rw [hF]
        obtain ⟨M, hM⟩ : ∃ M, F.length = M := ⟨_, rfl⟩
        have HMM := Lib.hid hM
        rw [hM] at HSL HFE HFG HFB
        rw [hM]
        have hMn : M ≤ n := HFE.out
        clear hF hM hb2 hb3 ho3 hb23
        go_wp2_with fail
        go_loopw [6, 12] (fun s6 s12 wx => ∃ (i q g3 c4 : Nat), i ≤ M ∧ q = m + i ∧ s12 = .int .i64 i ∧ s6 = .slice (some ⟨g3, 0, none⟩) q c4 ∧ wx.ownsRow w.heap.size 46 3 (.slice (some ⟨g3, 0, none⟩) q c4) q (mksV (puts (marksK f c k) ((foundU f c y).take i))) ∧ Below w3.heap.size w3 wx) (fun _ s12 _ => M - (intOf s12).toNat)
        case atStart => exact ⟨0, m, g2, c2, by omega, rfl, rfl, rfl, HO3.out, Below.refl _ _⟩
        case round =>
          obtain ⟨i, q, g3, c4, hi, hq, rfl, rfl, ho4, hb4⟩ := hrel
          have HQ := Lib.hid hq
          have HO4 := Lib.hid ho4
          have HB4 := Lib.hid hb4
          have hz4 := hb4.size
          have hq2 : q ≤ 32000 := by omega
          clear hq ho4 hb4
          by_cases hlt2 : i < M
          · have hii : (i : Int) < (M : Int) := by omega
            have HFG1 := Lib.hid (HFG.out i hlt2)
            have hab := HFB.out i hlt2
            have HFD := Lib.hid (show ∃ h : i < (foundU f c y).length, (foundU f c y)[i] = (⟨y, F.getD i 0, (F.getD i 0 + sz) % n⟩ : Mk) from by
              have e1 := HE.out
              have e2 := HMM.out
              have h : i < (foundU f c y).length := by rw [e1, List.length_map]; omega
              refine ⟨h, ?_⟩
              have h2 : i < F.length := by omega
              simp only [e1, List.getElem_map, List.getD_eq_getElem?_getD, List.getElem?_eq_getElem h2, Option.getD_some])
            obtain ⟨b, o, rfl, hbb, hc⟩ := HSL.out i (by omega)
            simp only at hc
            rw [HFG1.out] at hc
            obtain ⟨a, ha⟩ : ∃ a, F.getD i 0 = a := ⟨_, rfl⟩
            rw [ha] at hc hab HFD
            have cc : wr.drew.cell? ⟨b, o + i, none⟩ = some (.int .i64 (a : Int)) := (HB4.out.cell (p := ⟨b, o + i, none⟩) hbb).trans hc
            have ht2 : Int.tmod ((a : Int) + (sz : Int)) (n : Int) = (((a + sz) % n : Nat) : Int) := by
              rw [Int.tmod_eq_emod_of_nonneg (by omega)]
              simp
            obtain ⟨z, hzz⟩ : ∃ z, (a + sz) % n = z := ⟨_, rfl⟩
            rw [hzz] at ht2 HFD
            have ht3 : ((a : Int) + (sz : Int)) % (n : Int) = (z : Int) := by rw [← ht2, Int.tmod_eq_emod_of_nonneg (by omega)]
            have hw1 : IntKind.i64.wrap ((a : Int) + (sz : Int)) = (a : Int) + (sz : Int) := by rw [IntKind.wrap_i64]; omega
            have hnz0 : (n = 0) = False := by simp; omega
            have hzn : z < n := by rw [← hzz]; exact Nat.mod_lt _ (by omega)
            have HPQ := Lib.hid (show (puts (marksK f c k) ((foundU f c y).take i)).length = q by
              rw [puts_len, HM.out, List.length_take, HE.out, List.length_map, HMM.out, HQ.out, Nat.min_eq_left hi])
            have HPUT := Lib.hid (fun (W : World) (hW : Below wr.heap.size wr W) => l07Put_at (w := W) ⟨y, a, z⟩ (y : Int) (a : Int) (z : Int) rfl rfl rfl (own_below HO4.out hW) HPQ.out (by omega))
            have HPS := Lib.hid (show puts (marksK f c k) ((foundU f c y).take (i + 1)) = putM ⟨y, a, z⟩ (puts (marksK f c k) ((foundU f c y).take i)) by
              obtain ⟨h, e⟩ := HFD.out
              rw [puts_succ _ _ _ h, e])
            clear ha hc hzz HFG1 hbb
            go_wp2_with fail
            go_region_law (go_simp; go_at_call 68; refine (HPUT.out _ ((Below.refl _ _).drew)).mono ?_; rintro e w5 ⟨g5, c5, rfl, ho5, hb5⟩)
            all_goals
              go_wp2_with fail
              exact ⟨⟨i + 1, q + 1, g5, c5, by omega, by have := HQ.out; omega, by go_num, rfl, by rw [HPS.out]; exact own_base ho5 (by have := HB3.out.size; simp; omega), HB4.out.trans (((Below.refl _ _).drew.trans hb5).mono hz4)⟩, by simp [intOf] <;> omega⟩
          · obtain rfl : i = M := by omega
            have HTE := Lib.hid (show puts (marksK f c k) ((foundU f c y).take i) = marksK f c y by rw [HMS1.out, List.take_of_length_le (by rw [HE.out, List.length_map, HMM.out]; exact Nat.le_refl _)])
            have HTL := Lib.hid (show (marksK f c y).length = q by rw [HMS1.out, puts_len, HM.out, HE.out, List.length_map, HMM.out, HQ.out])
            go_wp2_with fail
            refine ⟨⟨k + 1, q, g3, c4, by omega, by rw [HY.out]; exact HTL.out, by have := HY.out; go_num, rfl, by rw [HY.out, ← HTE.out]; exact HO4.out, HB3.out.trans (HB4.out.mono hz3)⟩, by have := HY.out; simp [intOf] <;> omega⟩
    · obtain rfl : k = 3 := by omega
      go_wp2_with fail
      go_ret
      have hm := HM.out
      subst hm
      exact ⟨g2, c2, rfl, HO.out, HB.out⟩
end Go.Proofs.YtabmdbhbbmnkdaaDoor
