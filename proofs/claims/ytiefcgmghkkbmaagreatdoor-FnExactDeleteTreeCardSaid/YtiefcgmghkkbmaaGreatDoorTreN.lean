/-
  Trees: names put in order; the paths that a walk has found: plain.
-/
import Derived.Test.YtiefcgmghkkbmaaGreatDoorTreR
import Derived.Test.YtiefcgmghkkbmaaGreatDoorLtP
namespace Go.Proofs.YtiefcgmghkkbmaaGreatDoor
open Go lib
set_option linter.unusedVariables false
set_option maxRecDepth 100000
/-- a text put in behind those that are less -/
def putS (x : ByteArray) : List ByteArray → List ByteArray
  | [] => [x]
  | y :: r => if ltB y x = true then y :: putS x r else x :: y :: r
theorem putS_at {x : ByteArray} : ∀ (L : List ByteArray) (k : Nat), k ≤ L.length → (∀ i, i < k → ltB (L.getD i ⟨#[]⟩) x = true) → (k = L.length ∨ ltB (L.getD k ⟨#[]⟩) x = false) → putS x L = L.take k ++ x :: L.drop k
  | [], k, h, _, _ => by
    obtain rfl : k = 0 := by simpa using h
    rfl
  | y :: r, 0, _, _, h => by
    rcases h with h | h
    · simp at h
    · rw [List.getD_cons_zero] at h
      rw [putS, if_neg (by rw [h]; decide)]
      rfl
  | y :: r, k + 1, hk, hlt, h => by
    have h0 := hlt 0 (by omega)
    rw [List.getD_cons_zero] at h0
    rw [putS, if_pos h0, List.take_succ_cons, List.drop_succ_cons, List.cons_append]
    rw [putS_at r k (by simpa using hk) (fun i hi => by have := hlt (i + 1) (by omega); rwa [List.getD_cons_succ] at this) (by
      rcases h with h | h
      · left; simpa using h
      · right; rwa [List.getD_cons_succ] at h)]
theorem putS_len {x : ByteArray} : ∀ L : List ByteArray, (putS x L).length = L.length + 1
  | [] => rfl
  | y :: r => by
    rw [putS]
    split
    · simp [putS_len r]
    · simp
theorem putS_perm {x : ByteArray} : ∀ L : List ByteArray, (putS x L).Perm (x :: L)
  | [] => List.Perm.refl _
  | y :: r => by
    rw [putS]
    split
    · exact ((putS_perm r).cons y).trans (List.Perm.swap x y r)
    · exact List.Perm.refl _
/-- texts in their order -/
def SrtS (L : List ByteArray) : Prop := L.Pairwise fun a b => kB a ≤ kB b
theorem putS_srt {x : ByteArray} : ∀ {L : List ByteArray}, SrtS L → SrtS (putS x L)
  | [], _ => List.pairwise_singleton _ _
  | y :: r, h => by
    have h' := List.pairwise_cons.1 h
    rw [putS]
    split
    · rename_i hl
      refine List.pairwise_cons.2 ⟨fun z hz => ?_, putS_srt h'.2⟩
      rcases List.mem_cons.1 ((putS_perm r).mem_iff.1 hz) with rfl | hz
      · exact List.le_of_lt ((ltB_iff _ _).1 hl)
      · exact h'.1 z hz
    · rename_i hl
      have hle : kB x ≤ kB y := (ltB_ff _ _).1 (by simpa using hl)
      refine List.pairwise_cons.2 ⟨fun z hz => ?_, h⟩
      rcases List.mem_cons.1 hz with rfl | hz
      · exact hle
      · exact List.le_trans hle (h'.1 z hz)
/-- texts put in one after another -/
def putL (O L : List ByteArray) : List ByteArray := L.foldl (fun o x => putS x o) O
theorem putL_app (O L M : List ByteArray) : putL O (L ++ M) = putL (putL O L) M := List.foldl_append
theorem putL_cons (O : List ByteArray) (x : ByteArray) (M : List ByteArray) : putL O (x :: M) = putL (putS x O) M := rfl
theorem putL_srt : ∀ {L O : List ByteArray}, SrtS O → SrtS (putL O L)
  | [], O, h => h
  | x :: L, O, h => putL_srt (L := L) (putS_srt h)
theorem putL_perm : ∀ (L O : List ByteArray), (putL O L).Perm (O ++ L)
  | [], O => by rw [List.append_nil]; exact List.Perm.refl _
  | x :: L, O => by
    refine (putL_perm L (putS x O)).trans ?_
    refine ((putS_perm O).append_right L).trans ?_
    exact List.perm_middle.symm
theorem putL_len (O L : List ByteArray) : (putL O L).length = O.length + L.length := by
  rw [(putL_perm L O).length_eq, List.length_append]
theorem srt_unique : ∀ {l m : List (List UInt8)}, l.Perm m → (l.Pairwise fun a b => a ≤ b) → (m.Pairwise fun a b => a ≤ b) → l = m
  | [], m, h, _, _ => (List.Perm.nil_eq h)
  | a :: l, [], h, _, _ => by have := h.length_eq; simp at this
  | a :: l, b :: m, h, hl, hm => by
    have hl' := List.pairwise_cons.1 hl
    have hm' := List.pairwise_cons.1 hm
    have h1 : b ≤ a := by
      rcases List.mem_cons.1 (h.mem_iff.1 (List.mem_cons_self (a := a))) with e | e
      · rw [e]; exact List.le_refl _
      · exact hm'.1 a e
    have h2 : a ≤ b := by
      rcases List.mem_cons.1 (h.mem_iff.2 (List.mem_cons_self (a := b))) with e | e
      · rw [e]; exact List.le_refl _
      · exact hl'.1 b e
    obtain rfl : a = b := List.le_antisymm h2 h1
    rw [srt_unique (List.Perm.cons_inv h) hl'.2 hm'.2]
theorem sort_put (L : List ByteArray) : ((L.map kB).mergeSort fun x y => decide (x ≤ y)) = (putL [] L).map kB := by
  refine srt_unique ?_ ?_ ?_
  · refine (List.mergeSort_perm _ _).trans ?_
    have := (putL_perm L []).map kB
    rw [List.nil_append] at this
    exact this.symm
  · have hp := List.pairwise_mergeSort (le := fun x y : List UInt8 => decide (x ≤ y)) (fun a b c h1 h2 => by simp only [decide_eq_true_eq] at *; exact List.le_trans h1 h2) (fun a b => by have := List.le_total a b; simpa using this) (L.map kB)
    exact hp.imp fun h => by simpa using h
  · have hs : SrtS (putL [] L) := putL_srt List.Pairwise.nil
    exact List.pairwise_map.2 hs
/-! ### what a directory lists -/
def lsName (x : Nat → UInt8) : ByteArray := if x 0 = 4 then tnm x ++ slashB else tnm x
/-- the names of one chain -/
noncomputable def lsC (u : Nat → Nat → UInt8) (b : Nat) : List ByteArray := (lkL (nx2 u) b).map fun x => lsName (u x)
/-- the names of the first chains of a directory -/
noncomputable def lsD (u : Nat → Nat → UInt8) (d k : Nat) : List ByteArray := (List.range k).flatMap fun h => lsC u (u d (tTab d + h)).toNat
theorem lsD_succ (u : Nat → Nat → UInt8) (d k : Nat) : lsD u d (k + 1) = lsD u d k ++ lsC u (u d (tTab d + k)).toNat := by
  unfold lsD
  rw [List.range_succ, List.flatMap_append, List.flatMap_cons, List.flatMap_nil, List.append_nil]
theorem lsC_len {n : Nat} {u : Nat → Nat → UInt8} {d k : Nat} (h : DD n u d) (hk : k < 8) : (lsC u (u d (tTab d + k)).toNat).length ≤ 256 := by
  obtain ⟨l, l1, l0, _⟩ := h.chain hk
  unfold lsC
  rw [lkL_eq l1, List.length_map]
  exact l0
theorem lsD_len {n : Nat} {u : Nat → Nat → UInt8} {d : Nat} (h : DD n u d) : ∀ k, k ≤ 8 → (lsD u d k).length ≤ k * 256
  | 0, _ => by unfold lsD; simp
  | k + 1, hk => by
    have h1 := lsD_len h k (by omega)
    have h2 := lsC_len h (show k < 8 by omega)
    rw [lsD_succ, List.length_append]
    omega
theorem flatMap_same {α β : Type} {f g : α → List β} : ∀ {l : List α}, (∀ x ∈ l, f x = g x) → l.flatMap f = l.flatMap g
  | [], _ => rfl
  | a :: l, h => by
    rw [List.flatMap_cons, List.flatMap_cons, h a List.mem_cons_self, flatMap_same (fun x hx => h x (List.mem_cons_of_mem _ hx))]
/-! ### the paths of all files -/
/-- the paths below a directory -/
noncomputable def allP (u : Nat → Nat → UInt8) : Nat → ByteArray → Nat → List ByteArray
  | 0, _, _ => []
  | g + 1, pre, d => (List.range 8).flatMap fun h => (lkL (nx2 u) (u d (tTab d + h)).toNat).flatMap fun x => if u x 0 = 4 then allP u g (pre ++ tnm (u x) ++ slashB) x else [pre ++ tnm (u x)]
theorem allP_more {n : Nat} {u : Nat → Nat → UInt8} : ∀ (g k : Nat) (pre : ByteArray) (d : Nat), DSnd n u g d (tTab d) → allP u (g + k) pre d = allP u g pre d
  | 0, k, pre, d, h => h.elim
  | g + 1, k, pre, d, h => by
    rw [show g + 1 + k = (g + k) + 1 by omega]
    unfold allP
    refine flatMap_same fun h' hh => ?_
    obtain ⟨l, l1, l0, l2⟩ := h h' (List.mem_range.1 hh)
    rw [lkL_eq (show Lnk (nx2 u) _ l from l1)]
    refine flatMap_same fun x hx => ?_
    obtain ⟨a1, a6, a7, a2, a3, a4, a5⟩ := l2 x hx
    have hx0 := l1.ne x hx
    by_cases q : u x 0 = 4
    · rw [if_pos q, if_pos q]
      refine allP_more (n := n) g k _ x ?_
      unfold tTab
      rw [if_neg hx0]
      exact a4 q
    · rw [if_neg q, if_neg q]
/-- the paths of the files of a directory -/
noncomputable def aP (u : Nat → Nat → UInt8) (pre : ByteArray) (d : Nat) : List ByteArray := allP u 300 pre d
noncomputable def aPx (u : Nat → Nat → UInt8) (pre : ByteArray) (x : Nat) : List ByteArray := if u x 0 = 4 then aP u (pre ++ tnm (u x) ++ slashB) x else [pre ++ tnm (u x)]
noncomputable def aPc (u : Nat → Nat → UInt8) (pre : ByteArray) (b : Nat) : List ByteArray := (lkL (nx2 u) b).flatMap (aPx u pre)
theorem aP_eq {n : Nat} {u : Nat → Nat → UInt8} {g d : Nat} (hg : g ≤ 299) (h : DSnd n u g d (tTab d)) (pre : ByteArray) : aP u pre d = (List.range 8).flatMap fun h => aPc u pre (u d (tTab d + h)).toNat := by
  unfold aP
  rw [show 300 = 299 + 1 from rfl, allP]
  refine flatMap_same fun h' hh => ?_
  cases g with
  | zero => exact h.elim
  | succ g =>
    obtain ⟨l, l1, l0, l2⟩ := h h' (List.mem_range.1 hh)
    unfold aPc
    rw [lkL_eq (show Lnk (nx2 u) _ l from l1)]
    refine flatMap_same fun x hx => ?_
    obtain ⟨a1, a6, a7, a2, a3, a4, a5⟩ := l2 x hx
    have hx0 := l1.ne x hx
    unfold aPx
    by_cases q : u x 0 = 4
    · rw [if_pos q, if_pos q]
      have hd : DSnd n u g x (tTab x) := by
        unfold tTab
        rw [if_neg hx0]
        exact a4 q
      unfold aP
      have e1 := allP_more (n := n) g (299 - g) (pre ++ tnm (u x) ++ slashB) x hd
      have e2 := allP_more (n := n) g (300 - g) (pre ++ tnm (u x) ++ slashB) x hd
      rw [show g + (299 - g) = 299 by omega] at e1
      rw [show g + (300 - g) = 300 by omega] at e2
      rw [e1, e2]
    · rw [if_neg q, if_neg q]
/-- the paths of the files among items -/
def fileP (L : List TIt) : List ByteArray := (L.filter fun x => !x.fol).map (·.path)
theorem fileP_app (L M : List TIt) : fileP (L ++ M) = fileP L ++ fileP M := by unfold fileP; rw [List.filter_append, List.map_append]
theorem tChn_paths {n : Nat} {u : Nat → Nat → UInt8} (hn : n ≤ 128) : ∀ (g : Nat) (path : ByteArray) (d h b : Nat) (S : TS), g ≤ 256 → S.uns n < g → S.sn d = true → (tChn n u g path d h b S).pr = [] → (∀ i, i < n → (tChn n u g path d h b S).sn i = true → tBit (u 0) i = true) →
    fileP (tChn n u g path d h b S).it = fileP S.it ++ aPc u path b
  | 0, path, d, h, b, S, _, hg, _, _, _ => absurd hg (Nat.not_lt_zero _)
  | g + 1, path, d, h, b, S, hg6, hg, hd, hp, hF => by
    by_cases h0 : b = 0
    · subst h0
      have e1 : tChn n u (g + 1) path d h 0 S = S := by rw [tChn, if_pos rfl]
      rw [e1]
      unfold aPc
      rw [lkL_eq .nil]
      simp
    · obtain ⟨l, l1, _, l2⟩ := tChn_deep hn (g + 1) path d h b S hg6 hg hd hp hF
      obtain ⟨l', rfl, l3⟩ := l1.step h0
      obtain ⟨_, _, _, _, _, hdir, hfil⟩ := l2 b List.mem_cons_self
      have ec : aPc u path b = aPx u path b ++ aPc u path (u b 2).toNat := by
        unfold aPc
        rw [lkL_eq (show Lnk (nx2 u) b (b :: l') from l1), lkL_eq (show Lnk (nx2 u) (u b 2).toNat l' from l3)]
        rfl
      by_cases he : (tEnter n u S b (tEnt (u b) d)).2 = true
      · obtain ⟨h1, h2, h3, h4⟩ := tEnter_true he
        have hu := uns_see h1 h2
        have hnl := tNote_le (n := n) (u := u) (S := S.see b) (S0 := S) (h := h) path rfl h1 h2 hd
        have hNu : (tNote u (S.see b) d h b path).uns n = (S.see b).uns n := by unfold TS.uns; rw [tNote_sn]
        have hsb : (tNote u (S.see b) d h b path).sn b = true := by rw [tNote_sn]; simp [TS.see]
        have hit : (tNote u (S.see b) d h b path).it = S.it ++ [⟨d, b, tnm (u b), path ++ tnm (u b), decide (u b 0 = 4), tDbl u (S.see b) d h b, ⟨#[]⟩, false⟩] := rfl
        have key : ∃ T, tChn n u (g + 1) path d h b S = tChn n u g path d h (u b 2).toNat T ∧ TLe n d S T ∧ T.uns n ≤ (tNote u (S.see b) d h b path).uns n ∧ (T.pr = [] → (∀ i, i < n → T.sn i = true → tBit (u 0) i = true) → fileP T.it = fileP S.it ++ aPx u path b) := by
          by_cases hk : u b 0 = 4
          · have hT8 := (tPre_le (n := n) (u := u) (g := g) (path := path ++ tnm (u b) ++ slashB) (t := 12) hsb 8).1
            refine ⟨_, (tChn_dir h0 he hk).trans (by rw [h4]), ?_, ?_, ?_⟩
            · exact hnl.inner hT8 h2
            · exact hT8.uns
            · intro hT hTF
              have hT8' : (tPre n u g (path ++ tnm (u b) ++ slashB) b 12 (tNote u (S.see b) d h b path) 8).pr = [] := hT
              have hS0 : fileP (tNote u (S.see b) d h b path).it = fileP S.it := by
                rw [hit, fileP_app]
                have : fileP [(⟨d, b, tnm (u b), path ++ tnm (u b), decide (u b 0 = 4), tDbl u (S.see b) d h b, ⟨#[]⟩, false⟩ : TIt)] = [] := by unfold fileP; simp [hk]
                rw [this, List.append_nil]
              have step : ∀ k, k ≤ 8 → fileP (tPre n u g (path ++ tnm (u b) ++ slashB) b 12 (tNote u (S.see b) d h b path) k).it = fileP S.it ++ (List.range k).flatMap fun h => aPc u (path ++ tnm (u b) ++ slashB) (u b (tTab b + h)).toNat := by
                intro k
                induction k with
                | zero => intro _; simpa [tPre] using hS0
                | succ k ih =>
                  intro hk8
                  have hpg := tPre_pg (n := n) (u := u) (g := g) (path := path ++ tnm (u b) ++ slashB) (d := b) (t := 12) (S := tNote u (S.see b) d h b path) (k + 1) (7 - k)
                  rw [show k + 1 + (7 - k) = 8 by omega] at hpg
                  have hk1 := hpg.nil hT8'
                  have hsn := tPre_sn (n := n) (u := u) (g := g) (path := path ++ tnm (u b) ++ slashB) (t := 12) hsb (k + 1) (7 - k)
                  rw [show k + 1 + (7 - k) = 8 by omega] at hsn
                  have hk2 : ∀ i, i < n → (tPre n u g (path ++ tnm (u b) ++ slashB) b 12 (tNote u (S.see b) d h b path) (k + 1)).sn i = true → tBit (u 0) i = true := fun i hi hsi => hTF i hi (hsn i hsi)
                  rw [tPre_succ] at hk1 hk2 ⊢
                  have hle := (tPre_le (n := n) (u := u) (g := g) (path := path ++ tnm (u b) ++ slashB) (t := 12) hsb k).1
                  have hun := hle.uns
                  rw [tChn_paths hn g _ b k _ _ (by omega) (by omega) (hle.sn b hsb) hk1 hk2, ih (by omega), List.range_succ, List.flatMap_append, List.flatMap_cons, List.flatMap_nil, List.append_nil, List.append_assoc]
                  unfold tTab
                  rw [if_neg h0]
              have e8 := step 8 (Nat.le_refl _)
              have hDb : DSnd n u (g + 1) b (tTab b) := by
                unfold tTab
                rw [if_neg h0]
                exact hdir hk
              rw [← aP_eq (by omega) hDb] at e8
              unfold aPx
              rw [if_pos hk]
              exact e8
          · have hTf := tFile_le (n := n) (u := u) d 256 (tNote u (S.see b) d h b path) b (u b 14).toNat 1 ⟨#[]⟩
            refine ⟨_, (tChn_fil h0 he hk).trans (by rw [h4]), ?_, ?_, ?_⟩
            · exact (hnl.trans hTf).last (o := (tFile n u 256 (tNote u (S.see b) d h b path) b (u b 14).toNat 1 ⟨#[]⟩).2) (by rw [tFile_it]) rfl
            · exact hTf.uns
            · intro _ _
              show fileP (setLast (tNote u (S.see b) d h b path).it _) = _
              rw [hit, setLast_snoc, fileP_app]
              unfold aPx
              rw [if_neg hk]
              congr 1
              unfold fileP
              simp [hk]
        obtain ⟨T, e, k2, k3, k4⟩ := key
        rw [e] at hp hF
        rw [e, ec]
        have hTr := (tChn_le (n := n) (u := u) g path d h (u b 2).toNat T (k2.sn d hd)).1
        have hT : T.pr = [] := (tChn_pg (n := n) (u := u) g path d h _ T).nil hp
        have hTF : ∀ i, i < n → T.sn i = true → tBit (u 0) i = true := fun i hi hsi => hF i hi (hTr.sn i hsi)
        rw [tChn_paths hn g path d h _ T (by omega) (by omega) (k2.sn d hd) hp hF, k4 hT hTF, List.append_assoc]
      · exfalso
        rw [tChn_stop h0 (by simpa using he)] at hp
        exact tEnter_false (by simpa using he) hp
/-- the files' paths of a walk without problems -/
theorem tWalk_paths {n : Nat} {u : Nat → Nat → UInt8} (hn : n ≤ 128) (h : (tWalk n u).pr = []) : fileP (tWalk n u).it = aP u ⟨#[]⟩ 0 := by
  have hds := dsnd_of hn h
  have hr := hds.1
  unfold tWalk at h ⊢
  rw [if_pos hr] at h ⊢
  rw [tMarks_it]
  have hsee : (TS0.see 0).sn 0 = true := rfl
  have hmk := tMarks_nil n h
  have hT8 : (tPre n u 256 ⟨#[]⟩ 0 4 (TS0.see 0) 8).pr = [] := (tMarks_pg n).nil h
  have step : ∀ k, k ≤ 8 → fileP (tPre n u 256 ⟨#[]⟩ 0 4 (TS0.see 0) k).it = (List.range k).flatMap fun h => aPc u ⟨#[]⟩ (u 0 (tTab 0 + h)).toNat := by
    intro k
    induction k with
    | zero => intro _; rfl
    | succ k ih =>
      intro hk8
      have hpg := tPre_pg (n := n) (u := u) (g := 256) (path := ⟨#[]⟩) (d := 0) (t := 4) (S := TS0.see 0) (k + 1) (7 - k)
      rw [show k + 1 + (7 - k) = 8 by omega] at hpg
      have hk1 := hpg.nil hT8
      have hsn := tPre_sn (n := n) (u := u) (g := 256) (path := ⟨#[]⟩) (t := 4) hsee (k + 1) (7 - k)
      rw [show k + 1 + (7 - k) = 8 by omega] at hsn
      have hk2 : ∀ i, i < n → (tPre n u 256 ⟨#[]⟩ 0 4 (TS0.see 0) (k + 1)).sn i = true → tBit (u 0) i = true := fun i hi hsi => by
        rw [← hmk i hi]
        exact hsn i hsi
      rw [tPre_succ] at hk1 hk2 ⊢
      have hle := (tPre_le (n := n) (u := u) (g := 256) (path := ⟨#[]⟩) (t := 4) hsee k).1
      have hun := unsF_le (tPre n u 256 ⟨#[]⟩ 0 4 (TS0.see 0) k).sn n
      rw [tChn_paths hn 256 _ 0 k _ _ (by omega) (by show unsF _ n < 256; omega) (hle.sn 0 hsee) hk1 hk2, ih (by omega), List.range_succ, List.flatMap_append, List.flatMap_cons, List.flatMap_nil, List.append_nil]
      rfl
  rw [aP_eq (by omega) (show DSnd n u 257 0 (tTab 0) from hds.2)]
  exact step 8 (Nat.le_refl _)
end Go.Proofs.YtiefcgmghkkbmaaGreatDoor
