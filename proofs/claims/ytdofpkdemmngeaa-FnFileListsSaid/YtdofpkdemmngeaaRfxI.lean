/-
  ReadFiles: the program's side.
-/
import Derived.RangeFuncBox
import Derived.RangeFuncLeaves
import Derived.RangeFuncNested
import Derived.Shelf.Abstract
import Derived.WalkKit
import Derived.OwnWalkIn
import Derived.TacticsInMore
import Derived.LoopNIn
import Derived.LoopIn
import Derived.Maps.AppendAt
import Derived.RegionIn
import Derived.BigRegionIn
import Derived.Deep.RegionWith
import Derived.Test.YtdofpkdemmngeaaRfxL
import Derived.Test.YtdofpkdemmngeaaRfxT
namespace Go.Proofs.Ytdofpkdemmngeaa
open Go Go.RowKit Go.Shelf lib
set_option linter.unusedVariables false
set_option maxRecDepth 100000
attribute [local go_sem] Oper.semAt_some
theorem parseT_eq (x : ByteArray) : parseT x = if (cutZS 32 (trimS x)).data.toList = [45] then some (cutAS 32 (trimS x), ⟨#[]⟩) else (unhex (cutZS 32 (trimS x)).data.toList).map fun d => (cutAS 32 (trimS x), ⟨d.toArray⟩) := by
  show (parseL x.data.toList).map _ = if cutZ 32 (Lib.trimSuffix x.data.toList [10]) = [45] then _ else (unhex (cutZ 32 (Lib.trimSuffix x.data.toList [10]))).map _
  unfold parseL
  split
  · rfl
  · rw [Option.map_map]; rfl
def fsOf (pre : List Txt) : List FileP := pre.filterMap fun x => parseT x.1
def allOk (pre : List Txt) : Prop := ∀ x ∈ pre, parseT x.1 ≠ none
theorem own_and {β : Type} {I I' : β → World → Prop} (h : Own I) (h' : Own I') : Own (fun s W => I s W ∧ I' s W) := fun s W W' row hs hg hr => ⟨h s W W' row hs.1 hg hr, h' s W W' row hs.2 hg hr⟩
theorem boxed_below {A B : World} {b : Nat} {t : TypeId} {v : Value} (h : Boxed A b t v) (hb : Below A.heap.size A B) : Boxed B b t v := (hb.block b h.lt).trans h
theorem cut_below {c : UInt8} {s : ByteArray} {r : Ending} {A B : World} (h : CutOut c s r A B) : Below A.heap.size A B := by
  rcases h.2 with e | e
  · rw [e]; exact Below.refl _ _
  · rw [e]; exact (Below.refl _ _).drew
theorem newsF (w : World) (e : Nat) (x y : Value) : ∀ (j : Nat) (q : Value), [x, y][j]? = some q → (w.alloc (.cells #[x, y] e)).cell? ((⟨w.heap.size, 0, none⟩ : Addr).add j) = some q := by
  intro j q h
  match j with
  | 0 =>
    have : q = x := by simpa using h.symm
    subst this
    exact World.cell?_alloc_new w #[q, y] e 0
  | 1 =>
    have : q = y := by simpa using h.symm
    subst this
    exact World.cell?_alloc_new w #[x, q] e 1
  | j + 2 => simp at h
theorem fsOf_snoc {pre : List Txt} {x : Txt} {f : FileP} (h : parseT x.1 = some f) : fsOf (pre ++ [x]) = fsOf pre ++ [f] := by
  unfold fsOf
  rw [List.filterMap_append]
  simp [h]
theorem allOk_snoc {pre : List Txt} {x : Txt} {f : FileP} (hk : allOk pre) (h : parseT x.1 = some f) : allOk (pre ++ [x]) := by
  intro y hy
  rcases List.mem_append.1 hy with hy | hy
  · exact hk y hy
  · rw [List.mem_singleton] at hy
    rw [hy, h]
    simp
theorem keeps_below {A B : World} (hb : Below A.heap.size A B) : KeepsOthers A B := ⟨hb.size, fun k o hk _ => (hb.block k (Array.getElem?_eq_some_iff.1 hk).1).trans hk⟩
theorem fsOf_all : ∀ pre : List Txt, allOk pre → pre.map (fun x => parseT x.1) = (fsOf pre).map some
  | [], _ => rfl
  | x :: r, h => by
    have ih := fsOf_all r (fun y hy => h y (List.mem_cons_of_mem _ hy))
    cases hp : parseT x.1 with
    | none => exact absurd hp (h x List.mem_cons_self)
    | some f =>
      have e : fsOf (x :: r) = f :: fsOf r := by unfold fsOf; rw [List.filterMap_cons, hp]
      rw [e, List.map_cons, List.map_cons, ih, hp]
theorem isText_ys {s : ByteArray} {ys : List Txt} (hys : ys.map (·.1.data.toList) = linesL s.data.toList) (hok : allOk ys) {L : List FileP} (h : IsText s L) : L = fsOf ys := by
  have h1 := isText_lines h
  rw [← hys, List.map_map] at h1
  exact ((List.map_inj_right (fun a b e => Option.some.inj e)).1 ((fsOf_all ys hok).symm.trans h1)).symm
theorem isText_not {s : ByteArray} {pre : List Txt} {r : List (List UInt8)} (hys : linesL s.data.toList = pre.map (·.1.data.toList) ++ r) (hno : ¬ allOk pre) (L : List FileP) : ¬ IsText s L := by
  intro h
  refine hno fun x hx e => ?_
  have h1 := isText_lines h
  rw [hys, List.map_append, List.map_map] at h1
  have h2 : parseT x.1 ∈ L.map some := by
    rw [← h1]
    exact List.mem_append_left _ (List.mem_map.2 ⟨x, hx, rfl⟩)
  rw [e] at h2
  obtain ⟨y, _, hy⟩ := List.mem_map.1 h2
  cases hy
theorem parseT_size {x : ByteArray} {f : FileP} (h : parseT x = some f) : f.1.size ≤ x.size ∧ f.2.size ≤ x.size := by
  rw [parseT_eq] at h
  have h1 := Nat.le_trans (cutAS_size 32 (trimS x)) (trimS_size x)
  split at h
  · cases h
    exact ⟨h1, Nat.zero_le _⟩
  · cases hu : unhex (cutZS 32 (trimS x)).data.toList with
    | none => rw [hu] at h; cases h
    | some d =>
      rw [hu] at h
      cases h
      have h2 := unhex_len _ _ hu
      have h3 := Nat.le_trans (cutZS_size 32 (trimS x)) (trimS_size x)
      rw [Lib.size_eq] at h3
      refine ⟨h1, ?_⟩
      show d.length ≤ x.size
      omega
theorem fsOf_size {pre : List Txt} (j : Nat) (hj : j < (fsOf pre).length * 2) : (nthF (fsOf pre) j).size ≤ 1048576 := by
  have hi : j / 2 < (fsOf pre).length := by omega
  have hm : (fsOf pre)[j / 2] ∈ fsOf pre := List.getElem_mem hi
  obtain ⟨x, _, hx⟩ := List.mem_filterMap.1 hm
  have hz := parseT_size hx
  have hx2 := x.2
  have e : (fsOf pre).getD (j / 2) (⟨#[]⟩, ⟨#[]⟩) = (fsOf pre)[j / 2] := by rw [List.getD_eq_getElem?_getD, List.getElem?_eq_getElem hi]; rfl
  unfold nthF
  rw [e]
  split
  · omega
  · omega
set_option maxHeartbeats 8000000 in
theorem implReadFiles_in (n : Nat) (hn : 4 ≤ n) (s : ByteArray) (hs : s.size ≤ 1048576) (w : World) :
    CallsIn Fence.wide n Try.prog 13 #[.string s] w fun e W' => RfOut 43 s e w W' := by
  have h1 : 1 ≤ n := by omega
  obtain ⟨i0, hi, hz0, hzz1, hz2⟩ := info_parts (show (Try.prog.info? 43).map (fun i => (i.zero, i.size, i.bytes)) = some (some (.agg #[.string .empty, .string .empty]), 2, 32) by kernel_rfl)
  refine callsIn_of_wp_marks Try.func13 rfl trivial ?_ rfl
  simp only [Try.ntmps13, List.size_toArray, List.length_cons, List.length_nil, Nat.reduceAdd, Nat.reduceSub, Array.replicate_succ, Array.replicate_zero, List.push_toArray, List.append_toArray, List.nil_append, List.cons_append]
  gi_wp2_with (refine ⟨trivial, ?_⟩; gi_at_call 29; refine (lines_in (n - 1) s _).mono ?_; rintro e w' ⟨rfl, rfl⟩)
  have bR := Boxed.new w 24 (.slice none 0 0)
  have bK := Boxed.new (w.alloc (.cells #[.slice none 0 0] 24)) 4 (.bool false)
  have bL := Boxed.new ((w.alloc (.cells #[.slice none 0 0] 24)).alloc (.cells #[.bool false] 4)) 24 (.slice none 0 0)
  have bS := Boxed.new (((w.alloc (.cells #[.slice none 0 0] 24)).alloc (.cells #[.bool false] 4)).alloc (.cells #[.slice none 0 0] 24)) 9 (.string s)
  rw [World.size_alloc] at bK
  rw [World.size_alloc, World.size_alloc] at bL
  rw [World.size_alloc, World.size_alloc, World.size_alloc] at bS
  have hB0 := (((((Below.refl w.heap.size w).alloc (Nat.le_refl _) (.cells #[.slice none 0 0] 24)).alloc (by simp) (.cells #[.bool false] 4)).alloc (by simp; omega) (.cells #[.slice none 0 0] 24)).alloc (by simp; omega) (.cells #[.string s] 9))
  have hro : Fence.wide.round = none := rfl
  refine wpIn_rangeFunc_steps (ps := #[14]) hro h1 (gf := 46) (lb := #[.pointer (some ⟨w.heap.size + 1 + 1 + 1, 0, none⟩)]) rfl trivial (enters_of Try.func46 (by kernel_rfl) rfl)
    (lines_steps (n - 1) (by omega) (w.heap.size + 1 + 1 + 1) w.heap.size (by omega) s hs _ bS) kpL_t (kpL_b (by simp; omega) (by simp)) (fun _ => rfl)
    (fun (pre : List Txt) W => ((∃ v, Boxed W (w.heap.size + 1 + 1) 24 v ∧ W.ownsRow w.heap.size 43 2 v (fsOf pre).length ((fsOf pre).flatMap encP) ∧ allOk pre) ∧ Boxed W w.heap.size 24 (.slice none 0 0) ∧ Boxed W (w.heap.size + 1) 4 (.bool false)) ∧ Below w.heap.size w W)
    (fun c (pre : List Txt) W => ((c = Code.ret ∧ ¬ allOk pre) ∧ Boxed W w.heap.size 24 (.slice none 0 0) ∧ Boxed W (w.heap.size + 1) 4 (.bool false)) ∧ Below w.heap.size w W)
    (OwnFrom.and (Own.from (own_and (holdsRow_own w.heap.size (w.heap.size + 1 + 1) 24 43 2 (β := List Txt) (fun pre : List Txt => (fsOf pre).length) (fun pre : List Txt => (fsOf pre).flatMap encP) (fun pre _ => allOk pre)) (own_and (boxed_own _ _ _) (boxed_own _ _ _))) _) (ownFrom_below (Nat.le_refl _) (by simp; omega)))
    (fun c => OwnFrom.and (Own.from (own_and (fun _ _ _ _ hs _ _ => hs) (own_and (boxed_own _ _ _) (boxed_own _ _ _))) _) (ownFrom_below (Nat.le_refl _) (by simp; omega)))
    ?steps ?stepsx
    ⟨⟨⟨_, (bL.alloc _), World.ownsRow_nil _ _ _ _, fun x hx => by simp at hx⟩, ((bR.alloc _).alloc _).alloc _, (bK.alloc _).alloc _⟩, hB0⟩
    (fun x => { tmps := #[.string s, undef, .pointer (some ⟨w.heap.size, 0, none⟩), .pointer (some ⟨w.heap.size + 1, 0, none⟩), .pointer (some ⟨w.heap.size + 1 + 1, 0, none⟩), .string x.1, undef, undef, undef, undef, undef, undef, .string s, .func (.func 46) #[] #[.pointer (some ⟨w.heap.size + 1 + 1 + 1, 0, none⟩)], .string x.1, undef, undef, undef, undef, undef, undef, undef, undef, undef, undef, undef, undef, undef, undef, undef, undef, undef, undef, undef, undef, undef, undef, undef, undef, undef, undef, undef, undef, undef, undef, undef, undef, undef], defers := [] }) ?assign ?body ?done ?stop
  case assign =>
    intro l x W K hK
    gi_wp2
    exact hK
  case steps =>
    rintro pre A B ⟨hg, u, hbx⟩ ⟨⟨⟨v, hv, ho, hk⟩, g1, g2⟩, hb⟩
    refine ⟨⟨⟨v, hv.kept hg (by simp), ho.kept hg (.inr fun e => hbx.not_row (by decide) ho e.symm), hk⟩, g1.kept hg (by simp; omega), g2.kept hg (by simp)⟩, hb.grown hg hb.size (fun k e => by cases e; omega)⟩
  case stepsx =>
    rintro c pre A B ⟨hg, u, hbx⟩ ⟨⟨hk, g1, g2⟩, hb⟩
    exact ⟨⟨hk, g1.kept hg (by simp; omega), g2.kept hg (by simp)⟩, hb.grown hg hb.size (fun k e => by cases e; omega)⟩
  case body =>
    rintro l pre x W hl ⟨⟨⟨v, hv, hrow, hok⟩, hr1, hr2⟩, hB⟩ hlt
    have hc := hv.cell
    have hxz := x.2
    have c1 := hr1.cell
    have f1 := hr1.frozen
    have c2 := hr2.cell
    have f2 := hr2.frozen
    have hT := Lib.hid (trim_nl x.1 hxz)
    have hzz := Nat.le_trans (cutZS_size 32 (trimS x.1)) (Nat.le_trans (trimS_size _) hxz)
    obtain ⟨T, hTT⟩ : ∃ T, cutZS 32 (trimS x.1) = T := ⟨_, rfl⟩
    obtain ⟨M, hM⟩ : ∃ M, cutAS 32 (trimS x.1) = M := ⟨_, rfl⟩
    have hn2 : 1 ≤ n - 1 - 1 := by omega
    have hC := Lib.hid (fun W' : World => (cut_one (trimS x.1) 32 (Nat.le_trans (trimS_size _) hxz) W').mono (fun e w' (h : CutOut 32 (trimS x.1) e W' w') => show (∃ b : Bool, e = .returned (.tuple #[.string M, .string T, .bool b])) ∧ Below W'.heap.size W' w' from by rw [← hM, ← hTT]; exact ⟨h.1, cut_below h⟩))
    have hTz : T.size ≤ 1048576 := by rw [← hTT]; exact hzz
    by_cases hd : T = ⟨#[45]⟩
    · have hd' : (T.toList == [45]) = true := by rw [hd, Lib.toList_data]; rfl
      have hp : parseT x.1 = some (M, ⟨#[]⟩) := by rw [parseT_eq, hTT, hM, if_pos (by rw [hd])]
      have hlen : (fsOf pre).length < 1048576 := Nat.lt_of_le_of_lt (List.length_filterMap_le _ _) (Nat.lt_of_lt_of_le hlt (Nat.le_trans (linesL_len _) (by rw [← Lib.size_eq]; exact hs)))
      have HTT := Lib.hid hTT
      have HM := Lib.hid hM
      clear hTT hM hd
      gi_wp2_with (first
        | (refine ⟨trivial, ?_⟩; gi_at_call 31; refine (CallsIn.inRound l (callsIn_wide.2 (hT.out _))).mono ?_; rintro e w' ⟨rfl, rfl⟩)
        | (refine ⟨trivial, ?_⟩; gi_at_call 30; refine (CallsIn.inRound l (callsIn_wide.2 (hC.out _))).mono ?_; rintro e w2 ⟨⟨bb, rfl⟩, hb3⟩; have hb4 := hB.trans (hb3.mono hB.size); have q1 := boxed_below hr1 hb3; have q2 := boxed_below hr2 hb3; have q4 := boxed_below hv hb3; have q3 := own_below hrow hb3; have k1 := q4.cell; have k2 := q4.frozen)
        | (gi_at_builtin; refine wpListIn_append_own _ rfl _ _ 24 rfl w.heap.size 43 i0 (.agg #[.string .empty, .string .empty]) 2 32 Try.underlying24 hi hz0 hzz1 hz2 rfl (by decide) _ _ _ rfl (q3.alloc _) ⟨_, 0, none⟩ 1 1 [.string M, .string ⟨#[]⟩] rfl rfl (newsF _ _ _ _) (by simp [Value.oneCell']) (by simp only [maxLen]; omega) (by omega) (by have := hb4.size; simp; omega) ?_; intro v' w1 hown' hgrow _; have hown2 := hown'; obtain ⟨g', cap', rfl⟩ := ownsRow_succ hown'; obtain ⟨hv1, hv2, hr5, hk5, hb5⟩ := q4.appended (by decide) q3 hb4.size (by omega) hown' hgrow; have hc1 := hv1.cell; have hf1 := hv1.frozen))
      refine ⟨((keeps_below hb3).trans hk5).from _, ⟨(hb3.mono hB.size).trans hb5, fun u hq => (((boxed_below hq hb3).alloc _).kept hgrow ((boxed_below hq hb3).not_row (by decide) q3)).kept (grownBy_setCell' _ _ _) (by simp)⟩, ⟨⟨_, hv2, by rw [fsOf_snoc hp]; simpa [encP] using hr5, allOk_snoc hok hp⟩, ((q1.alloc _).kept hgrow (q1.not_row (by decide) q3)).kept (grownBy_setCell' _ _ _) (by simp <;> omega), ((q2.alloc _).kept hgrow (q2.not_row (by decide) q3)).kept (grownBy_setCell' _ _ _) (by simp)⟩, hb4.trans hb5⟩
    · have hd' : (T.toList == [45]) = false := by
        rw [beq_eq_false_iff_ne]
        intro e
        exact hd (bytes_eq (by rw [← Lib.toList_data]; exact e))
      cases hu : unhex T.data.toList with
      | none =>
        have hH := Lib.hid (fun W' : World => (implUnhex_any T hTz W').mono (fun e w' (h : UnhOut T e W' w') => show e = .returned (.tuple #[.string ⟨#[]⟩, .bool false]) ∧ Below W'.heap.size W' w' from by
          obtain ⟨⟨d, h1, _⟩ | ⟨_, h1⟩, h2⟩ := h
          · rw [hu] at h1; cases h1
          · exact ⟨h1, h2⟩))
        have hp : parseT x.1 = none := by rw [parseT_eq, hTT, if_neg (fun e => hd (bytes_eq e)), hu]; rfl
        have HTT := Lib.hid hTT
        have HM := Lib.hid hM
        clear hTT hM hd hu
        gi_wp2_with (first
          | (refine ⟨trivial, ?_⟩; gi_at_call 31; refine (CallsIn.inRound l (callsIn_wide.2 (hT.out _))).mono ?_; rintro e w' ⟨rfl, rfl⟩)
          | (refine ⟨trivial, ?_⟩; gi_at_call 30; refine (CallsIn.inRound l (callsIn_wide.2 (hC.out _))).mono ?_; rintro e w2 ⟨⟨bb, rfl⟩, hb1⟩; have r1 := boxed_below hr1 hb1; have r2 := boxed_below hr2 hb1)
          | (refine ⟨trivial, ?_⟩; gi_at_call 32; refine (CallsIn.inRound l (callsIn_wide.2 (hH.out _))).mono ?_; rintro e w3 ⟨rfl, hb2⟩; have q1 := boxed_below r1 hb2; have q2 := boxed_below r2 hb2; have k1 := q1.cell; have k2 := q1.frozen; have k3 := q2.cell; have k4 := q2.frozen))
        have hb3 := keeps_below (Below.trans hb1 (hb2.mono hb1.size))
        have hb4 := hB.trans ((Below.trans hb1 (hb2.mono hb1.size)).mono hB.size)
        refine ⟨((hb3.trans (KeepsOthers.setCell _ _ _)).trans (KeepsOthers.setCell _ _ _)).from _, ⟨⟨rfl, fun h => h x (by simp) hp⟩, (q1.set _).other (by omega) _, (q2.other (by omega) _).set _⟩, (hb4.setCell (p := ⟨w.heap.size, 0, none⟩) (Nat.le_refl _) _).setCell (p := ⟨w.heap.size + 1, 0, none⟩) (by simp) _⟩
      | some d =>
        have hH := Lib.hid (fun W' : World => (implUnhex_any T hTz W').mono (fun e w' (h : UnhOut T e W' w') => show e = .returned (.tuple #[.string ⟨d.toArray⟩, .bool true]) ∧ Below W'.heap.size W' w' from by
          obtain ⟨⟨d', h1, h3⟩ | ⟨h1, _⟩, h2⟩ := h
          · rw [hu] at h1; cases h1; exact ⟨h3, h2⟩
          · rw [hu] at h1; cases h1))
        have hp : parseT x.1 = some (M, ⟨d.toArray⟩) := by rw [parseT_eq, hTT, hM, if_neg (fun e => hd (bytes_eq e)), hu]; rfl
        have hlen : (fsOf pre).length < 1048576 := Nat.lt_of_le_of_lt (List.length_filterMap_le _ _) (Nat.lt_of_lt_of_le hlt (Nat.le_trans (linesL_len _) (by rw [← Lib.size_eq]; exact hs)))
        have HTT := Lib.hid hTT
        have HM := Lib.hid hM
        clear hTT hM hd hu
        obtain ⟨D, hD⟩ : ∃ D : ByteArray, ⟨d.toArray⟩ = D := ⟨_, rfl⟩
        rw [hD] at hp hH
        gi_wp2_with (first
          | (refine ⟨trivial, ?_⟩; gi_at_call 31; refine (CallsIn.inRound l (callsIn_wide.2 (hT.out _))).mono ?_; rintro e w' ⟨rfl, rfl⟩)
          | (refine ⟨trivial, ?_⟩; gi_at_call 30; refine (CallsIn.inRound l (callsIn_wide.2 (hC.out _))).mono ?_; rintro e w2 ⟨⟨bb, rfl⟩, hb1⟩)
          | (refine ⟨trivial, ?_⟩; gi_at_call 32; refine (CallsIn.inRound l (callsIn_wide.2 (hH.out _))).mono ?_; rintro e w3 ⟨rfl, hb2⟩; have hb3 := Below.trans hb1 (hb2.mono hb1.size); have hb4 := hB.trans (hb3.mono hB.size); have q1 := boxed_below hr1 hb3; have q2 := boxed_below hr2 hb3; have q4 := boxed_below hv hb3; have q3 := own_below hrow hb3; have k1 := q4.cell; have k2 := q4.frozen)
          | (gi_at_builtin; refine wpListIn_append_own _ rfl _ _ 24 rfl w.heap.size 43 i0 (.agg #[.string .empty, .string .empty]) 2 32 Try.underlying24 hi hz0 hzz1 hz2 rfl (by decide) _ _ _ rfl (q3.alloc _) ⟨_, 0, none⟩ 1 1 [.string M, .string D] rfl rfl (newsF _ _ _ _) (by simp [Value.oneCell']) (by simp only [maxLen]; omega) (by omega) (by have := hb4.size; simp; omega) ?_; intro v' w1 hown' hgrow _; have hown2 := hown'; obtain ⟨g', cap', rfl⟩ := ownsRow_succ hown'; obtain ⟨hv1, hv2, hr5, hk5, hb5⟩ := q4.appended (by decide) q3 hb4.size (by omega) hown' hgrow; have hc1 := hv1.cell; have hf1 := hv1.frozen))
        refine ⟨((keeps_below hb3).trans hk5).from _, ⟨(hb3.mono hB.size).trans hb5, fun u hq => (((boxed_below hq hb3).alloc _).kept hgrow ((boxed_below hq hb3).not_row (by decide) q3)).kept (grownBy_setCell' _ _ _) (by simp)⟩, ⟨⟨_, hv2, by rw [fsOf_snoc hp]; simpa [encP] using hr5, allOk_snoc hok hp⟩, ((q1.alloc _).kept hgrow (q1.not_row (by decide) q3)).kept (grownBy_setCell' _ _ _) (by simp <;> omega), ((q2.alloc _).kept hgrow (q2.not_row (by decide) q3)).kept (grownBy_setCell' _ _ _) (by simp)⟩, hb4.trans hb5⟩
  case done =>
    rintro D ys W hD hys ⟨⟨⟨v, hv, hrow, hok⟩, g1, g2⟩, hB⟩ hK
    have hlen : (fsOf ys).length ≤ 1048576 := by
      have h1 : (fsOf ys).length ≤ ys.length := List.length_filterMap_le _ _
      have h2 : ys.length = (linesL s.data.toList).length := by rw [← hys, List.length_map]
      have h3 := linesL_len s.data.toList
      rw [← Lib.size_eq] at h3
      omega
    have hsz := fsOf_size (pre := ys)
    have huq := fun L => isText_ys hys hok (L := L)
    obtain ⟨L, hL⟩ : ∃ L, fsOf ys = L := ⟨_, rfl⟩
    rw [hL] at hrow hlen hsz huq
    obtain ⟨A, c', rfl⟩ : ∃ A c', v = .slice A L.length c' := by
      rcases hrow.2 with ⟨rfl, h0⟩ | ⟨gg, cap, cur, rfl, _⟩
      · exact ⟨none, 0, by rw [h0]⟩
      · exact ⟨_, _, rfl⟩
    have hc := hv.cell
    have hsl := own_slF hrow rfl
    have HV := implValid_any A L.length c' (nthF L) W hlen hsz hsl
    have HL := Lib.hid hL
    have HYS := Lib.hid hys
    clear hL hys
    have hn2 : 1 ≤ n - 1 - 1 := by omega
    have HRW := Lib.hid hrow
    by_cases hvf : VF L.length (nthF L)
    · have HV2 := Lib.hid (HV.mono (fun e w' (h : VfOut _ e W w') => show e = .returned (.bool true) ∧ Below W.heap.size W w' from by
        obtain ⟨b, hb, h1, h2⟩ := h
        rw [hb.2 hvf] at h1
        exact ⟨h1, h2⟩))
      obtain ⟨F, hF⟩ : ∃ F, ftx (nthF L) L.length = F := ⟨_, rfl⟩
      have HT := Lib.hid (fun (W1 : World) (hb : Below W.heap.size W W1) => (implFilesText_any A L.length c' (nthF L) W1 hlen hsz ((hsl.below hb).more hb.size)).mono (fun e w' (h : e = .returned (.string (ftAll L.length (nthF L))) ∧ Below W1.heap.size W1 w') => show e = .returned (.string F) ∧ Below W1.heap.size W1 w' from ⟨by rw [h.1, ← hF]; unfold ftAll; rw [if_pos hvf], h.2⟩))
      clear HV
      by_cases hFs : F = s
      · have hcmp : (F.toList == s.toList) = true := by rw [hFs]; simp
        have HIT := Lib.hid (show IsText s L from ⟨hvf, hF.trans hFs⟩)
        clear hF hFs
        gi_wp2_with (first
          | (refine ⟨trivial, ?_⟩; gi_at_call 17; refine (callsIn_wide.2 HV2.out).mono ?_; rintro e w1 ⟨rfl, hb1⟩; have q3 := boxed_below hv hb1; have k3 := q3.cell)
          | (refine ⟨trivial, ?_⟩; gi_at_call 12; refine (callsIn_wide.2 (HT.out w1 hb1)).mono ?_; rintro e w2 ⟨rfl, hb2⟩; have hb3 := Below.trans hb1 (hb2.mono hb1.size); have q1 := boxed_below g1 hb3; have q2 := boxed_below g2 hb3; have q4 := boxed_below hv hb3; have r1 := q1.cell; have r2 := q1.frozen; have r3 := q2.cell; have r4 := q2.frozen; have r5 := q4.cell))
        have s1 := (q1.set (.slice A L.length c')).other (B' := w.heap.size + 1) (by omega) (.bool true)
        have s2 := q2.other (B' := w.heap.size) (by omega) (.slice A L.length c')
        have o1 := own_below HRW.out hb3
        have o2 := o1.kept (grownBy_setCell' _ _ (.slice A L.length c')) (.inr fun e => q1.not_row (by decide) o1 e.symm)
        have o3 := o2.kept (grownBy_setCell' _ _ (.bool true)) (.inr fun e => s2.not_row (by decide) o2 e.symm)
        have hK3 := (((keeps_below hb3).trans (KeepsOthers.setCell _ ⟨w.heap.size, 0, none⟩ (.slice A L.length c'))).trans (KeepsOthers.setCell _ ⟨w.heap.size + 1, 0, none⟩ (.bool true))).2 D _ hK rfl
        have hB3 := ((hB.trans (hb3.mono hB.size)).setCell (p := ⟨w.heap.size, 0, none⟩) (Nat.le_refl _) (.slice A L.length c')).setCell (p := ⟨w.heap.size + 1, 0, none⟩) (by simp) (.bool true)
        have c1 := cell_kept s1.cell (grownBy_putObj' _ D (.deferred none)) (fun r e => by cases e; exact ⟨_, hK3, rfl⟩)
        have c2 := cell_kept (s2.set (.bool true)).cell (grownBy_putObj' _ D (.deferred none)) (fun r e => by cases e; exact ⟨_, hK3, rfl⟩)
        show LeavesInM _ _ _ _ _ _ _ _ _
        refine ⟨by simp, .inl ⟨_, _, rfl, run_takeDeferred hK3, ?_⟩⟩
        refine ⟨.tuple #[.slice A L.length c', .bool true], by simp [results, Try.results13, go_sem, c1, c2], ?_⟩
        exact RfOut.good HIT.out (ownsRow_putObj o3 _ hK3 rfl) (hB3.trans (belowK_b (w := w) (Nat.le_refl _) _ D _ _ (by simp at hD; omega) hK3 rfl rfl))
      · have hcmp : (F.toList == s.toList) = false := by
          rw [beq_eq_false_iff_ne]
          intro e
          rw [Lib.toList_data, Lib.toList_data] at e
          exact hFs (by rw [bytes_eq e])
        have HIT := Lib.hid (show ∀ L', ¬ IsText s L' from fun L' h => hFs (by rw [← hF, ← huq L' h]; exact h.2))
        clear hF hFs
        gi_wp2_with (first
          | (refine ⟨trivial, ?_⟩; gi_at_call 17; refine (callsIn_wide.2 HV2.out).mono ?_; rintro e w1 ⟨rfl, hb1⟩; have q3 := boxed_below hv hb1; have k3 := q3.cell)
          | (refine ⟨trivial, ?_⟩; gi_at_call 12; refine (callsIn_wide.2 (HT.out w1 hb1)).mono ?_; rintro e w2 ⟨rfl, hb2⟩; have hb3 := Below.trans hb1 (hb2.mono hb1.size); have q1 := boxed_below g1 hb3; have q2 := boxed_below g2 hb3; have r1 := q1.cell; have r2 := q1.frozen; have r3 := q2.cell; have r4 := q2.frozen))
        have s1 := (q1.set (.slice none 0 0)).other (B' := w.heap.size + 1) (by omega) (.bool false)
        have s2 := q2.other (B' := w.heap.size) (by omega) (.slice none 0 0)
        have hK3 := (((keeps_below hb3).trans (KeepsOthers.setCell _ ⟨w.heap.size, 0, none⟩ (.slice none 0 0))).trans (KeepsOthers.setCell _ ⟨w.heap.size + 1, 0, none⟩ (.bool false))).2 D _ hK rfl
        have hB3 := ((hB.trans (hb3.mono hB.size)).setCell (p := ⟨w.heap.size, 0, none⟩) (Nat.le_refl _) (.slice none 0 0)).setCell (p := ⟨w.heap.size + 1, 0, none⟩) (by simp) (.bool false)
        have c1 := cell_kept s1.cell (grownBy_putObj' _ D (.deferred none)) (fun r e => by cases e; exact ⟨_, hK3, rfl⟩)
        have c2 := cell_kept (s2.set (.bool false)).cell (grownBy_putObj' _ D (.deferred none)) (fun r e => by cases e; exact ⟨_, hK3, rfl⟩)
        show LeavesInM _ _ _ _ _ _ _ _ _
        refine ⟨by simp, .inl ⟨_, _, rfl, run_takeDeferred hK3, ?_⟩⟩
        refine ⟨.tuple #[.slice none 0 0, .bool false], by simp [results, Try.results13, go_sem, c1, c2], ?_⟩
        exact RfOut.bad HIT.out (World.ownsRow_nil _ _ _ _) (hB3.trans (belowK_b (w := w) (Nat.le_refl _) _ D _ _ (by simp at hD; omega) hK3 rfl rfl))
    · have HV2 := Lib.hid (HV.mono (fun e w' (h : VfOut _ e W w') => show e = .returned (.bool false) ∧ Below W.heap.size W w' from by
        obtain ⟨b, hb, h1, h2⟩ := h
        cases b with
        | true => exact absurd (hb.1 rfl) hvf
        | false => exact ⟨h1, h2⟩))
      have HIT := Lib.hid (show ∀ L', ¬ IsText s L' from fun L' h => hvf (by rw [← huq L' h]; exact h.1))
      clear HV
      gi_wp2_with (refine ⟨trivial, ?_⟩; gi_at_call 17; refine (callsIn_wide.2 HV2.out).mono ?_; rintro e w1 ⟨rfl, hb1⟩; have q1 := boxed_below g1 hb1; have q2 := boxed_below g2 hb1; have k1 := q1.cell; have k2 := q1.frozen; have k3 := q2.cell; have k4 := q2.frozen)
      refine ⟨trivial, ?_⟩
      gi_wp2
      have s1 := (q1.set (.slice none 0 0)).other (B' := w.heap.size + 1) (by omega) (.bool false)
      have s2 := q2.other (B' := w.heap.size) (by omega) (.slice none 0 0)
      have hK3 := (((keeps_below hb1).trans (KeepsOthers.setCell _ ⟨w.heap.size, 0, none⟩ (.slice none 0 0))).trans (KeepsOthers.setCell _ ⟨w.heap.size + 1, 0, none⟩ (.bool false))).2 D _ hK rfl
      have hB3 := ((hB.trans (hb1.mono hB.size)).setCell (p := ⟨w.heap.size, 0, none⟩) (Nat.le_refl _) (.slice none 0 0)).setCell (p := ⟨w.heap.size + 1, 0, none⟩) (by simp) (.bool false)
      have c1 := cell_kept s1.cell (grownBy_putObj' _ D (.deferred none)) (fun r e => by cases e; exact ⟨_, hK3, rfl⟩)
      have c2 := cell_kept (s2.set (.bool false)).cell (grownBy_putObj' _ D (.deferred none)) (fun r e => by cases e; exact ⟨_, hK3, rfl⟩)
      show LeavesInM _ _ _ _ _ _ _ _ _
      refine ⟨by simp, .inl ⟨_, _, rfl, run_takeDeferred hK3, ?_⟩⟩
      refine ⟨.tuple #[.slice none 0 0, .bool false], by simp [results, Try.results13, go_sem, c1, c2], ?_⟩
      exact RfOut.bad HIT.out (World.ownsRow_nil _ _ _ _) (hB3.trans (belowK_b (w := w) (Nat.le_refl _) _ D _ _ (by simp at hD; omega) hK3 rfl rfl))
  case stop =>
    rintro D c pre W hD ⟨r, hr⟩ ⟨⟨⟨rfl, hno⟩, g1, g2⟩, hB⟩ hK
    have k1 := g1.cell
    have k2 := g2.cell
    gi_wp2
    show LeavesInM _ _ _ _ _ _ _ _ _
    refine ⟨by simp, .inl ⟨_, _, rfl, run_takeDeferred hK, ?_⟩⟩
    have c1 := cell_kept k1 (grownBy_putObj' W D (.deferred none)) (fun r e => by cases e; exact ⟨_, hK, rfl⟩)
    have c2 := cell_kept k2 (grownBy_putObj' W D (.deferred none)) (fun r e => by cases e; exact ⟨_, hK, rfl⟩)
    refine ⟨.tuple #[.slice none 0 0, .bool false], by simp [results, Try.results13, go_sem, c1, c2], ?_⟩
    exact RfOut.bad (isText_not hr hno) (World.ownsRow_nil _ _ _ _) (hB.trans (belowK_b (w := w) (Nat.le_refl _) W D _ _ (by simp at hD; omega) hK rfl rfl))
end Go.Proofs.Ytdofpkdemmngeaa
