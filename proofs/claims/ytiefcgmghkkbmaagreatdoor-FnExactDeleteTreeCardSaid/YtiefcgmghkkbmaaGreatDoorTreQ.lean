/-
  Trees: what a disk without problems looks like (plain).
-/
import Derived.Test.YtiefcgmghkkbmaaGreatDoorTreWk
namespace Go.Proofs.YtiefcgmghkkbmaaGreatDoor
open Go lib
set_option linter.unusedVariables false
set_option maxRecDepth 100000
/-- a chain of blocks by links, to its end -/
inductive Lnk (nx : Nat → Nat) : Nat → List Nat → Prop
  | nil : Lnk nx 0 []
  | cons {b : Nat} {l : List Nat} : b ≠ 0 → Lnk nx (nx b) l → Lnk nx b (b :: l)
theorem Lnk.unique {nx : Nat → Nat} : ∀ {b : Nat} {l l' : List Nat}, Lnk nx b l → Lnk nx b l' → l = l'
  | _, _, _, .nil, .nil => rfl
  | _, _, _, .nil, .cons h _ => absurd rfl h
  | _, _, _, .cons h _, .nil => absurd rfl h
  | _, _, _, .cons _ h1, .cons _ h2 => by rw [h1.unique h2]
def catB : List ByteArray → ByteArray
  | [] => ⟨#[]⟩
  | x :: r => x ++ catB r
theorem tEnter_true {n : Nat} {u : Nat → Nat → UInt8} {S : TS} {b : Nat} {ok : Prop} (h : (tEnter n u S b ok).2 = true) : b < n ∧ S.sn b = false ∧ ok ∧ (tEnter n u S b ok).1 = S.see b := by
  unfold tEnter at h ⊢
  by_cases h1 : n ≤ b ∨ S.sn b = true
  · rw [if_pos h1] at h; cases h
  · rw [if_neg h1] at h ⊢
    by_cases h2 : usum (u b) 32 ≠ 0
    · rw [if_pos h2] at h; cases h
    · rw [if_neg h2] at h ⊢
      by_cases h3 : ok
      · rw [if_pos h3]
        exact ⟨by omega, by cases hs : S.sn b with | false => rfl | true => exact absurd (.inr hs) h1, h3, rfl⟩
      · rw [if_neg h3] at h; cases h
/-- a file that was followed to its end -/
theorem tFile_some {n : Nat} {u : Nat → Nat → UInt8} : ∀ (g : Nat) (S : TS) (f b k : Nat) (out D : ByteArray), (tFile n u g S f b k out).2 = some D →
    ∃ l, Lnk (fun x => (u x 4).toNat) b l ∧ D = out ++ catB (l.map fun x => tDat (u x)) ∧ (∀ i (h : i < l.length), l[i] < n ∧ S.sn l[i] = false ∧ tPart (u l[i]) f (k + i) ∧ (tFile n u g S f b k out).1.sn l[i] = true) ∧ D.size = tW (u f) 12 ∧ l.length ≤ g
  | 0, S, f, b, k, out, D, h => by cases h
  | g + 1, S, f, b, k, out, D, h => by
    by_cases h0 : b = 0
    · subst h0
      unfold tFile at h
      rw [if_pos rfl] at h
      by_cases hz : out.size = tW (u f) 12
      · rw [if_pos hz] at h
        injection h with h
        subst h
        exact ⟨[], .nil, (ByteArray.append_empty (b := out)).symm, (fun i hi => absurd hi (Nat.not_lt_zero _)), hz, Nat.zero_le _⟩
      · rw [if_neg hz] at h; cases h
    · by_cases he : (tEnter n u S b (tPart (u b) f k)).2 = true
      · obtain ⟨h1, h2, h3, h4⟩ := tEnter_true he
        have e : tFile n u (g + 1) S f b k out = tFile n u g (S.see b) f (u b 4).toNat (k + 1) (out ++ tDat (u b)) := by rw [tFile, if_neg h0, if_pos he, h4]
        rw [e] at h ⊢
        obtain ⟨l, l1, l2, l3, l4, l5⟩ := tFile_some g _ f _ _ _ D h
        refine ⟨b :: l, .cons h0 l1, ?_, ?_, l4, by simpa using l5⟩
        · rw [l2]
          simp [catB, ByteArray.append_assoc]
        · intro i hi
          cases i with
          | zero => exact ⟨h1, h2, h3, (tFile_le (n := n) (u := u) 0 g (S.see b) f (u b 4).toNat (k + 1) (out ++ tDat (u b))).sn b (by simp [TS.see])⟩
          | succ i =>
            have hi' : i < l.length := by simpa using hi
            obtain ⟨a1, a2, a3, a4⟩ := l3 i hi'
            refine ⟨a1, ?_, ?_, a4⟩
            · show S.sn l[i] = false
              unfold TS.see at a2
              dsimp only at a2
              by_cases hxb : l[i] = b
              · rw [hxb]; exact h2
              · simpa [hxb] using a2
            · show tPart (u l[i]) f (k + (i + 1))
              rw [← Nat.add_assoc, Nat.add_right_comm]
              exact a3
      · unfold tFile at h
        rw [if_neg h0, if_neg he] at h; cases h
/-- problems are only added -/
def PG (S S' : TS) : Prop := ∃ e, S'.pr = S.pr ++ e
theorem PG.refl (S : TS) : PG S S := ⟨[], (List.append_nil _).symm⟩
theorem PG.trans {S S1 S2 : TS} (h : PG S S1) (k : PG S1 S2) : PG S S2 := by
  obtain ⟨e, h⟩ := h
  obtain ⟨e', k⟩ := k
  exact ⟨e ++ e', by rw [k, h, List.append_assoc]⟩
theorem PG.nil {S S' : TS} (h : PG S S') (h0 : S'.pr = []) : S.pr = [] := by
  obtain ⟨e, h⟩ := h
  rw [h0] at h
  exact (List.append_eq_nil_iff.1 h.symm).1
theorem PG.prob (S : TS) (k b : Nat) : PG S (S.prob k b) := ⟨[(k, b)], rfl⟩
theorem prob_ne {S : TS} {k b : Nat} : (S.prob k b).pr ≠ [] := by
  show S.pr ++ [(k, b)] ≠ []
  simp
theorem PG.it {S S' : TS} (h : PG S S') (L : List TIt) : PG S { S' with it := L } := h
theorem tEnter_pg {n : Nat} {u : Nat → Nat → UInt8} (S : TS) (b : Nat) (ok : Prop) : PG S (tEnter n u S b ok).1 := by
  rcases tEnter_cases (n := n) (u := u) S b ok with ⟨_, _, _, _, e⟩ | ⟨k, e⟩ <;> rw [e]
  · exact ⟨[], (List.append_nil _).symm⟩
  · exact PG.prob _ _ _
theorem tEnter_false {n : Nat} {u : Nat → Nat → UInt8} {S : TS} {b : Nat} {ok : Prop} (h : (tEnter n u S b ok).2 = false) : (tEnter n u S b ok).1.pr ≠ [] := by
  rcases tEnter_cases (n := n) (u := u) S b ok with ⟨_, _, _, _, e⟩ | ⟨k, e⟩
  · rw [e] at h; cases h
  · rw [e]; exact prob_ne
theorem tNote_pg {u : Nat → Nat → UInt8} (S : TS) (d h b : Nat) (path : ByteArray) : PG S (tNote u S d h b path) := by
  unfold tNote
  split
  · exact PG.prob _ _ _
  · exact PG.refl _
theorem tFile_pg {n : Nat} {u : Nat → Nat → UInt8} : ∀ (g : Nat) (S : TS) (f b k : Nat) (out : ByteArray), PG S (tFile n u g S f b k out).1
  | 0, S, f, b, k, out => PG.refl _
  | g + 1, S, f, b, k, out => by
    unfold tFile
    by_cases h0 : b = 0
    · rw [if_pos h0]
      split
      · exact PG.refl _
      · exact PG.prob _ _ _
    · rw [if_neg h0]
      split
      · exact (tEnter_pg _ _ _).trans (tFile_pg g _ _ _ _ _)
      · exact tEnter_pg _ _ _
theorem foldPG {F : TS → Nat → TS} (hF : ∀ T k, PG T (F T k)) : ∀ (L : List Nat) (S : TS), PG S (L.foldl F S)
  | [], S => PG.refl _
  | k :: L, S => by
    rw [List.foldl_cons]
    exact (hF S k).trans (foldPG hF L _)
theorem tChn_pg {n : Nat} {u : Nat → Nat → UInt8} : ∀ (g : Nat) (path : ByteArray) (d h b : Nat) (S : TS), PG S (tChn n u g path d h b S)
  | 0, path, d, h, b, S => PG.refl _
  | g + 1, path, d, h, b, S => by
    unfold tChn
    by_cases h0 : b = 0
    · rw [if_pos h0]; exact PG.refl _
    · rw [if_neg h0]
      split
      · refine PG.trans ?_ (tChn_pg g _ _ _ _ _)
        have h1 := (tEnter_pg (n := n) (u := u) S b (tEnt (u b) d)).trans (tNote_pg (u := u) _ d h b path)
        split
        · exact h1.trans (foldPG (fun T k => tChn_pg g _ _ _ _ T) _ _)
        · exact PG.it (h1.trans (tFile_pg _ _ _ _ _ _)) _
      · exact tEnter_pg _ _ _
theorem tFile_whole {n : Nat} {u : Nat → Nat → UInt8} : ∀ (g : Nat) (S : TS) (f b k : Nat) (out : ByteArray), S.uns n < g → (tFile n u g S f b k out).1.pr = [] → (tFile n u g S f b k out).2.isSome = true
  | 0, S, f, b, k, out, hg, _ => absurd hg (Nat.not_lt_zero _)
  | g + 1, S, f, b, k, out, hg, h => by
    unfold tFile at h ⊢
    by_cases h0 : b = 0
    · rw [if_pos h0] at h ⊢
      by_cases hz : out.size = tW (u f) 12
      · rw [if_pos hz]; rfl
      · rw [if_neg hz] at h; exact absurd h prob_ne
    · rw [if_neg h0] at h ⊢
      by_cases he : (tEnter n u S b (tPart (u b) f k)).2 = true
      · rw [if_pos he] at h ⊢
        obtain ⟨h1, h2, _, h4⟩ := tEnter_true he
        have hu := uns_see h1 h2
        exact tFile_whole g _ f _ _ _ (by rw [h4]; omega) h
      · rw [if_neg he] at h
        exact absurd h (tEnter_false (by simpa using he))
theorem tNote_dbl {u : Nat → Nat → UInt8} {S : TS} {d h b : Nat} {path : ByteArray} (hp : (tNote u S d h b path).pr = []) : tHash (tnm (u b)) = h ∧ ¬ tTwice S.it d (tnm (u b)) := by
  cases hd : tDbl u S d h b with
  | true =>
    unfold tNote at hp
    rw [hd] at hp
    exact absurd hp prob_ne
  | false =>
    have h1 : ¬ (tHash (tnm (u b)) ≠ h ∨ tTwice S.it d (tnm (u b))) := fun q => by rw [tDbl_t q] at hd; cases hd
    exact ⟨Classical.byContradiction fun q => h1 (.inl q), fun q => h1 (.inr q)⟩
/-- a chain that shows no problem -/
theorem tChn_sound {n : Nat} {u : Nat → Nat → UInt8} : ∀ (g : Nat) (path : ByteArray) (d h b : Nat) (S : TS), S.uns n < g → S.sn d = true → (tChn n u g path d h b S).pr = [] →
    ∃ l, Lnk (fun x => (u x 2).toNat) b l ∧ ∀ x ∈ l, x < n ∧ S.sn x = false ∧ tEnt (u x) d ∧ tHash (tnm (u x)) = h
  | 0, path, d, h, b, S, hg, _, _ => absurd hg (Nat.not_lt_zero _)
  | g + 1, path, d, h, b, S, hg, hd, hp => by
    by_cases h0 : b = 0
    · subst h0
      exact ⟨[], .nil, (fun x hx => (by cases hx))⟩
    · by_cases he : (tEnter n u S b (tEnt (u b) d)).2 = true
      · obtain ⟨h1, h2, h3, h4⟩ := tEnter_true he
        have hu := uns_see h1 h2
        have hn := tNote_le (n := n) (u := u) (S := S.see b) (S0 := S) (h := h) path rfl h1 h2 hd
        have hNu : (tNote u (S.see b) d h b path).uns n = (S.see b).uns n := by unfold TS.uns; rw [tNote_sn]
        have hsb : (tNote u (S.see b) d h b path).sn b = true := by rw [tNote_sn]; simp [TS.see]
        have key : ∃ T, tChn n u (g + 1) path d h b S = tChn n u g path d h (u b 2).toNat T ∧ PG (tNote u (S.see b) d h b path) T ∧ TLe n d S T ∧ T.uns n ≤ (tNote u (S.see b) d h b path).uns n := by
          by_cases hk : u b 0 = 4
          · refine ⟨_, (tChn_dir h0 he hk).trans (by rw [h4]), ?_, ?_, ?_⟩
            · exact foldPG (fun T k => tChn_pg g _ _ _ _ T) _ _
            · exact hn.inner (tPre_le (n := n) (u := u) (g := g) (path := path ++ tnm (u b) ++ slashB) (t := 12) hsb 8).1 h2
            · exact (tPre_le (n := n) (u := u) (g := g) (path := path ++ tnm (u b) ++ slashB) (t := 12) hsb 8).1.uns
          · refine ⟨_, (tChn_fil h0 he hk).trans (by rw [h4]), ?_, ?_, ?_⟩
            · exact PG.it (tFile_pg _ _ _ _ _ _) _
            · exact (hn.trans (tFile_le (n := n) (u := u) d 256 (tNote u (S.see b) d h b path) b (u b 14).toNat 1 ⟨#[]⟩)).last (o := (tFile n u 256 (tNote u (S.see b) d h b path) b (u b 14).toNat 1 ⟨#[]⟩).2) (by rw [tFile_it]) rfl
            · exact (tFile_le (n := n) (u := u) d 256 (tNote u (S.see b) d h b path) b (u b 14).toNat 1 ⟨#[]⟩).uns
        obtain ⟨T, e, k1, k2, k3⟩ := key
        rw [e] at hp
        obtain ⟨l, l1, l2⟩ := tChn_sound g path d h _ T (by omega) (k2.sn d hd) hp
        have hT : T.pr = [] := (tChn_pg (n := n) (u := u) g path d h _ T).nil hp
        obtain ⟨q1, _⟩ := tNote_dbl (k1.nil hT)
        refine ⟨b :: l, .cons h0 l1, fun x hx => ?_⟩
        rcases List.mem_cons.1 hx with rfl | hx
        · exact ⟨h1, h2, h3, q1⟩
        · obtain ⟨a1, a2, a3, a4⟩ := l2 x hx
          refine ⟨a1, ?_, a3, a4⟩
          cases hs : S.sn x with
          | false => rfl
          | true => rw [k2.sn x hs] at a2; cases a2
      · exfalso
        rw [tChn_stop h0 (by simpa using he)] at hp
        exact tEnter_false (by simpa using he) hp
theorem tPre_pg {n : Nat} {u : Nat → Nat → UInt8} {g : Nat} {path : ByteArray} {d t : Nat} {S : TS} (i : Nat) : ∀ j, PG (tPre n u g path d t S i) (tPre n u g path d t S (i + j))
  | 0 => PG.refl _
  | j + 1 => by
    rw [← Nat.add_assoc, tPre_succ]
    exact (tPre_pg i j).trans (tChn_pg _ _ _ _ _ _)
theorem tPre_sn {n : Nat} {u : Nat → Nat → UInt8} {g : Nat} {path : ByteArray} {d t : Nat} {S : TS} (hd : S.sn d = true) (i : Nat) : ∀ j x, (tPre n u g path d t S i).sn x = true → (tPre n u g path d t S (i + j)).sn x = true
  | 0, x, h => h
  | j + 1, x, h => by
    rw [← Nat.add_assoc, tPre_succ]
    have h1 := (tPre_le (n := n) (u := u) (g := g) (path := path) (t := t) hd (i + j)).1
    exact (tChn_le (n := n) (u := u) g path d (i + j) (u d (t + (i + j))).toNat _ (h1.sn d hd)).1.sn x (tPre_sn hd i j x h)
/-- a file whose data blocks are whole -/
def FSnd (n : Nat) (u : Nat → Nat → UInt8) (x : Nat) : Prop := ∃ l, Lnk (fun y => (u y 4).toNat) (u x 14).toNat l ∧ l.length ≤ 256 ∧ (∀ i (h : i < l.length), l[i] < n ∧ tPart (u l[i]) x (1 + i) ∧ tBit (u 0) l[i] = true) ∧ (catB (l.map fun y => tDat (u y))).size = tW (u x) 12
/-- a directory without problems, with all that lies in it -/
def DSnd (n : Nat) (u : Nat → Nat → UInt8) : Nat → Nat → Nat → Prop
  | 0, _, _ => False
  | g + 1, d, t => ∀ h, h < 8 → ∃ l, Lnk (fun x => (u x 2).toNat) (u d (t + h)).toNat l ∧ l.length ≤ 256 ∧ ∀ x ∈ l, x < n ∧ x ≠ d ∧ tBit (u 0) x = true ∧ tEnt (u x) d ∧ tHash (tnm (u x)) = h ∧ (u x 0 = 4 → DSnd n u g x 12) ∧ (u x 0 ≠ 4 → FSnd n u x)
theorem DSnd.more {n : Nat} {u : Nat → Nat → UInt8} : ∀ {g d t : Nat}, DSnd n u g d t → DSnd n u (g + 1) d t
  | 0, _, _, h => h.elim
  | g + 1, d, t, h => fun k hk => by
    obtain ⟨l, l1, l0, l2⟩ := h k hk
    exact ⟨l, l1, l0, fun x hx => by
      obtain ⟨a1, a6, a7, a2, a3, a4, a5⟩ := l2 x hx
      exact ⟨a1, a6, a7, a2, a3, fun q => (a4 q).more, a5⟩⟩
theorem tChn_deep {n : Nat} {u : Nat → Nat → UInt8} (hn : n ≤ 128) : ∀ (g : Nat) (path : ByteArray) (d h b : Nat) (S : TS), g ≤ 256 → S.uns n < g → S.sn d = true → (tChn n u g path d h b S).pr = [] → (∀ i, i < n → (tChn n u g path d h b S).sn i = true → tBit (u 0) i = true) →
    ∃ l, Lnk (fun x => (u x 2).toNat) b l ∧ l.length ≤ g ∧ ∀ x ∈ l, x < n ∧ x ≠ d ∧ tBit (u 0) x = true ∧ tEnt (u x) d ∧ tHash (tnm (u x)) = h ∧ (u x 0 = 4 → DSnd n u g x 12) ∧ (u x 0 ≠ 4 → FSnd n u x)
  | 0, path, d, h, b, S, _, hg, _, _, _ => absurd hg (Nat.not_lt_zero _)
  | g + 1, path, d, h, b, S, hg6, hg, hd, hp, hF => by
    by_cases h0 : b = 0
    · subst h0
      exact ⟨[], .nil, Nat.zero_le _, (fun x hx => (by cases hx))⟩
    · by_cases he : (tEnter n u S b (tEnt (u b) d)).2 = true
      · obtain ⟨h1, h2, h3, h4⟩ := tEnter_true he
        have hu := uns_see h1 h2
        have hnl := tNote_le (n := n) (u := u) (S := S.see b) (S0 := S) (h := h) path rfl h1 h2 hd
        have hNu : (tNote u (S.see b) d h b path).uns n = (S.see b).uns n := by unfold TS.uns; rw [tNote_sn]
        have hsb : (tNote u (S.see b) d h b path).sn b = true := by rw [tNote_sn]; simp [TS.see]
        have key : ∃ T, tChn n u (g + 1) path d h b S = tChn n u g path d h (u b 2).toNat T ∧ PG (tNote u (S.see b) d h b path) T ∧ TLe n d S T ∧ T.sn b = true ∧ T.uns n ≤ (tNote u (S.see b) d h b path).uns n ∧ (T.pr = [] → (∀ i, i < n → T.sn i = true → tBit (u 0) i = true) → (u b 0 = 4 → DSnd n u (g + 1) b 12) ∧ (u b 0 ≠ 4 → FSnd n u b)) := by
          by_cases hk : u b 0 = 4
          · have hT8 := (tPre_le (n := n) (u := u) (g := g) (path := path ++ tnm (u b) ++ slashB) (t := 12) hsb 8).1
            refine ⟨_, (tChn_dir h0 he hk).trans (by rw [h4]), ?_, ?_, ?_, ?_, ?_⟩
            · exact foldPG (fun T k => tChn_pg g _ _ _ _ T) _ _
            · exact hnl.inner hT8 h2
            · exact hT8.sn b hsb
            · exact hT8.uns
            · intro hT hTF
              refine ⟨fun _ k hk8 => ?_, fun q => absurd hk q⟩
              have hT8' : (tPre n u g (path ++ tnm (u b) ++ slashB) b 12 (tNote u (S.see b) d h b path) 8).pr = [] := hT
              have hpg := tPre_pg (n := n) (u := u) (g := g) (path := path ++ tnm (u b) ++ slashB) (d := b) (t := 12) (S := tNote u (S.see b) d h b path) (k + 1) (7 - k)
              rw [show k + 1 + (7 - k) = 8 by omega] at hpg
              have hk1 := hpg.nil hT8'
              have hsn := tPre_sn (n := n) (u := u) (g := g) (path := path ++ tnm (u b) ++ slashB) (t := 12) hsb (k + 1) (7 - k)
              rw [show k + 1 + (7 - k) = 8 by omega] at hsn
              have hk2 : ∀ i, i < n → (tPre n u g (path ++ tnm (u b) ++ slashB) b 12 (tNote u (S.see b) d h b path) (k + 1)).sn i = true → tBit (u 0) i = true := fun i hi hsi => hTF i hi (hsn i hsi)
              rw [tPre_succ] at hk1 hk2
              have hle := (tPre_le (n := n) (u := u) (g := g) (path := path ++ tnm (u b) ++ slashB) (t := 12) hsb k).1
              have hun := hle.uns
              obtain ⟨l, l1, l2, l3⟩ := tChn_deep hn g _ b k _ _ (by omega) (by omega) (hle.sn b hsb) hk1 hk2
              exact ⟨l, l1, by omega, l3⟩
          · have hTf := tFile_le (n := n) (u := u) d 256 (tNote u (S.see b) d h b path) b (u b 14).toNat 1 ⟨#[]⟩
            refine ⟨_, (tChn_fil h0 he hk).trans (by rw [h4]), ?_, ?_, ?_, ?_, ?_⟩
            · exact PG.it (tFile_pg _ _ _ _ _ _) _
            · exact (hnl.trans hTf).last (o := (tFile n u 256 (tNote u (S.see b) d h b path) b (u b 14).toNat 1 ⟨#[]⟩).2) (by rw [tFile_it]) rfl
            · exact hTf.sn b hsb
            · exact hTf.uns
            · intro hT hTF
              refine ⟨fun q => absurd q hk, fun _ => ?_⟩
              have hun := unsF_le (tNote u (S.see b) d h b path).sn n
              have hw := tFile_whole (n := n) (u := u) 256 (tNote u (S.see b) d h b path) b (u b 14).toNat 1 ⟨#[]⟩ (by show unsF _ n < 256; omega) hT
              obtain ⟨D, hD⟩ := Option.isSome_iff_exists.1 hw
              obtain ⟨l, l1, l2, l3, l4, l6⟩ := tFile_some 256 _ _ _ _ _ _ hD
              refine ⟨l, l1, l6, fun i hi => ⟨(l3 i hi).1, (l3 i hi).2.2.1, hTF _ (l3 i hi).1 (l3 i hi).2.2.2⟩, ?_⟩
              have l5 := l2.trans (ByteArray.empty_append (b := catB (l.map fun x => tDat (u x))))
              rw [← l5]
              exact l4
        obtain ⟨T, e, k1, k2, k5, k3, k4⟩ := key
        rw [e] at hp hF
        have hTr := (tChn_le (n := n) (u := u) g path d h (u b 2).toNat T (k2.sn d hd)).1
        obtain ⟨l, l1, l0, l2⟩ := tChn_deep hn g path d h _ T (by omega) (by omega) (k2.sn d hd) hp hF
        have hT : T.pr = [] := (tChn_pg (n := n) (u := u) g path d h _ T).nil hp
        have hTF : ∀ i, i < n → T.sn i = true → tBit (u 0) i = true := fun i hi hsi => hF i hi (hTr.sn i hsi)
        obtain ⟨q1, _⟩ := tNote_dbl (k1.nil hT)
        refine ⟨b :: l, .cons h0 l1, by simpa using l0, fun x hx => ?_⟩
        rcases List.mem_cons.1 hx with rfl | hx
        · exact ⟨h1, (fun q => by rw [q, hd] at h2; cases h2), hTF _ h1 k5, h3, q1, (k4 hT hTF).1, (k4 hT hTF).2⟩
        · obtain ⟨a1, a6, a7, a2, a3, a4, a5⟩ := l2 x hx
          exact ⟨a1, a6, a7, a2, a3, fun q => (a4 q).more, a5⟩
      · exfalso
        rw [tChn_stop h0 (by simpa using he)] at hp
        exact tEnter_false (by simpa using he) hp
theorem tMarks_pg {u : Nat → Nat → UInt8} {S : TS} : ∀ m, PG S (tMarks u S m)
  | 0 => PG.refl _
  | m + 1 => by
    have ih := tMarks_pg (u := u) (S := S) m
    unfold tMarks
    split
    · exact ih.trans (PG.prob _ _ _)
    · split
      · exact ih.trans (PG.prob _ _ _)
      · exact ih
/-- marks without problems -/
theorem tMarks_nil {u : Nat → Nat → UInt8} {S : TS} : ∀ m, (tMarks u S m).pr = [] → ∀ i, i < m → S.sn i = tBit (u 0) i
  | 0, _, i, hi => absurd hi (Nat.not_lt_zero _)
  | m + 1, h, i, hi => by
    unfold tMarks at h
    by_cases h1 : S.sn m = true ∧ tBit (u 0) m = false
    · rw [if_pos h1] at h; exact absurd h prob_ne
    · rw [if_neg h1] at h
      by_cases h2 : S.sn m = false ∧ tBit (u 0) m = true
      · rw [if_pos h2] at h; exact absurd h prob_ne
      · rw [if_neg h2] at h
        rcases Nat.lt_or_ge i m with h3 | h3
        · exact tMarks_nil m h i h3
        · obtain rfl : i = m := by omega
          cases hs : S.sn i <;> cases hb : tBit (u 0) i <;> simp_all
theorem dsnd_of {n : Nat} {u : Nat → Nat → UInt8} (hn : n ≤ 128) (h : (tWalk n u).pr = []) : tRootP n u = 0 ∧ DSnd n u 257 0 4 := by
  by_cases hr : tRootP n u = 0
  · refine ⟨hr, fun k hk8 => ?_⟩
    unfold tWalk at h
    rw [if_pos hr] at h
    have hsee : (TS0.see 0).sn 0 = true := rfl
    have hmk := tMarks_nil n h
    have hT8 : (tPre n u 256 ⟨#[]⟩ 0 4 (TS0.see 0) 8).pr = [] := (tMarks_pg n).nil h
    have hpg := tPre_pg (n := n) (u := u) (g := 256) (path := ⟨#[]⟩) (d := 0) (t := 4) (S := TS0.see 0) (k + 1) (7 - k)
    rw [show k + 1 + (7 - k) = 8 by omega] at hpg
    have hk1 := hpg.nil hT8
    have hsn := tPre_sn (n := n) (u := u) (g := 256) (path := ⟨#[]⟩) (t := 4) hsee (k + 1) (7 - k)
    rw [show k + 1 + (7 - k) = 8 by omega] at hsn
    have hk2 : ∀ i, i < n → (tPre n u 256 ⟨#[]⟩ 0 4 (TS0.see 0) (k + 1)).sn i = true → tBit (u 0) i = true := fun i hi hsi => by
      rw [← hmk i hi]
      exact hsn i hsi
    rw [tPre_succ] at hk1 hk2
    have hle := (tPre_le (n := n) (u := u) (g := 256) (path := ⟨#[]⟩) (t := 4) hsee k).1
    have hun := unsF_le (tPre n u 256 ⟨#[]⟩ 0 4 (TS0.see 0) k).sn n
    exact tChn_deep hn 256 _ 0 k _ _ (by omega) (by show unsF _ n < 256; omega) (hle.sn 0 hsee) hk1 hk2
  · unfold tWalk at h
    rw [if_neg hr] at h
    exact absurd h prob_ne
end Go.Proofs.YtiefcgmghkkbmaaGreatDoor
