/-
  Trees: how far a walk goes: plain.
-/
import Derived.Test.YtiefcgmghkkbmaaGreatDoorTreP
namespace Go.Proofs.YtiefcgmghkkbmaaGreatDoor
open Go Go.ChangeShapes Go.WideShapes Go.ChangeAt Go.RowKit lib
set_option linter.unusedVariables false
set_option linter.unusedSimpArgs false
set_option maxRecDepth 100000
/-- how many of the first k blocks were not visited -/
def unsF (f : Nat → Bool) : Nat → Nat
  | 0 => 0
  | k + 1 => unsF f k + if f k = true then 0 else 1
theorem unsF_le (f : Nat → Bool) : ∀ k, unsF f k ≤ k
  | 0 => Nat.le_refl _
  | k + 1 => by
    have := unsF_le f k
    unfold unsF
    split <;> omega
theorem unsF_same {f g : Nat → Bool} : ∀ k, (∀ i, i < k → f i = g i) → unsF f k = unsF g k
  | 0, _ => rfl
  | k + 1, h => by
    unfold unsF
    rw [unsF_same k (fun i hi => h i (by omega)), h k (by omega)]
theorem unsF_see {f : Nat → Bool} {b : Nat} (hb : f b = false) : ∀ k, b < k → unsF (fun i => if i = b then true else f i) k + 1 = unsF f k
  | 0, h => by omega
  | k + 1, h => by
    unfold unsF
    rcases Nat.lt_or_ge b k with h1 | h1
    · have := unsF_see hb k h1
      rw [if_neg (show ¬ k = b by omega)]
      omega
    · obtain rfl : b = k := by omega
      rw [unsF_same (f := fun i => if i = b then true else f i) (g := f) b (fun i hi => if_neg (by omega))]
      simp [hb]
def TS.uns (S : TS) (n : Nat) : Nat := unsF S.sn n
def TS.mu (S : TS) (n : Nat) : Nat := S.pr.length + 20 * S.uns n
theorem uns_see {S : TS} {n b : Nat} (hb : b < n) (h : S.sn b = false) : (S.see b).uns n + 1 = S.uns n := unsF_see h n hb
theorem mu_see {S : TS} {n b : Nat} (hb : b < n) (h : S.sn b = false) : (S.see b).mu n + 20 = S.mu n := by
  have := uns_see hb h
  show S.pr.length + 20 * (S.see b).uns n + 20 = S.pr.length + 20 * S.uns n
  omega
theorem mu_prob (S : TS) (n k b : Nat) : (S.prob k b).mu n = S.mu n + 1 := by
  show (S.pr ++ [(k, b)]).length + 20 * S.uns n = S.pr.length + 20 * S.uns n + 1
  rw [List.length_append]
  simp
  omega
/-- what a part of a walk at directory d keeps -/
structure TLe (n d : Nat) (S S' : TS) : Prop where
  itl : S'.it.length + S'.uns n ≤ S.it.length + S.uns n
  uns : S'.uns n ≤ S.uns n
  sn : ∀ i, S.sn i = true → S'.sn i = true
  fwd : ∀ y, y ∈ S.it → ∃ x, x ∈ S'.it ∧ x.dir = y.dir ∧ x.nm = y.nm
  bwd : ∀ x, x ∈ S'.it → (∃ y, y ∈ S.it ∧ y.dir = x.dir ∧ y.nm = x.nm) ∨ ((S.sn x.dir = false ∨ x.dir = d) ∧ S'.sn x.dir = true)
theorem TLe.refl (n d : Nat) (S : TS) : TLe n d S S := ⟨Nat.le_refl _, Nat.le_refl _, fun _ h => h, fun y h => ⟨y, h, rfl, rfl⟩, fun x h => .inl ⟨x, h, rfl, rfl⟩⟩
theorem TLe.trans {n d : Nat} {S S1 S2 : TS} (h : TLe n d S S1) (k : TLe n d S1 S2) : TLe n d S S2 := by
  refine ⟨Nat.le_trans k.itl h.itl, Nat.le_trans k.uns h.uns, fun i hi => k.sn i (h.sn i hi), fun y hy => ?_, fun x hx => ?_⟩
  · obtain ⟨x, hx, e1, e2⟩ := h.fwd y hy
    obtain ⟨z, hz, e3, e4⟩ := k.fwd x hx
    exact ⟨z, hz, e3.trans e1, e4.trans e2⟩
  · rcases k.bwd x hx with ⟨y, hy, e1, e2⟩ | ⟨h1, h2⟩
    · rcases h.bwd y hy with ⟨z, hz, e3, e4⟩ | ⟨h3, h4⟩
      · exact .inl ⟨z, hz, e3.trans e1, e4.trans e2⟩
      · rw [e1] at h3 h4
        exact .inr ⟨h3, k.sn _ h4⟩
    · refine .inr ⟨?_, h2⟩
      rcases h1 with h1 | h1
      · left
        cases hs : S.sn x.dir with
        | false => rfl
        | true => rw [h.sn _ hs] at h1; cases h1
      · exact .inr h1
/-- a directory inside -/
theorem TLe.inner {n d b : Nat} {S S1 S2 : TS} (h : TLe n d S S1) (k : TLe n b S1 S2) (hb : S.sn b = false) : TLe n d S S2 := by
  refine ⟨Nat.le_trans k.itl h.itl, Nat.le_trans k.uns h.uns, fun i hi => k.sn i (h.sn i hi), fun y hy => ?_, fun x hx => ?_⟩
  · obtain ⟨x, hx, e1, e2⟩ := h.fwd y hy
    obtain ⟨z, hz, e3, e4⟩ := k.fwd x hx
    exact ⟨z, hz, e3.trans e1, e4.trans e2⟩
  · rcases k.bwd x hx with ⟨y, hy, e1, e2⟩ | ⟨h1, h2⟩
    · rcases h.bwd y hy with ⟨z, hz, e3, e4⟩ | ⟨h3, h4⟩
      · exact .inl ⟨z, hz, e3.trans e1, e4.trans e2⟩
      · rw [e1] at h3 h4
        exact .inr ⟨h3, k.sn _ h4⟩
    · refine .inr ⟨.inl ?_, h2⟩
      rcases h1 with h1 | h1
      · cases hs : S.sn x.dir with
        | false => rfl
        | true => rw [h.sn _ hs] at h1; cases h1
      · rw [h1]; exact hb
/-- all items lie in directories that were visited -/
def TS.Inv (S : TS) : Prop := ∀ x, x ∈ S.it → S.sn x.dir = true
theorem TLe.inv {n d : Nat} {S S' : TS} (h : TLe n d S S') (hi : S.Inv) : S'.Inv := fun x hx => by
  rcases h.bwd x hx with ⟨y, hy, e1, _⟩ | ⟨_, h2⟩
  · rw [← e1]; exact h.sn _ (hi y hy)
  · exact h2
/-- a directory that was visited and is not this one keeps its entries -/
theorem TLe.twice {n b d : Nat} {S S' : TS} (h : TLe n b S S') (hd : S.sn d = true) (hne : d ≠ b) (nm : ByteArray) : tTwice S'.it d nm ↔ tTwice S.it d nm := by
  constructor
  · rintro ⟨x, hx, e1, e2⟩
    rcases h.bwd x hx with ⟨y, hy, e3, e4⟩ | ⟨h3, _⟩
    · exact ⟨y, hy, e3.trans e1, e4.trans e2⟩
    · rw [e1] at h3
      rcases h3 with h3 | h3
      · rw [hd] at h3; cases h3
      · exact absurd h3 hne
  · rintro ⟨y, hy, e1, e2⟩
    obtain ⟨x, hx, e3, e4⟩ := h.fwd y hy
    exact ⟨x, hx, e3.trans e1, e4.trans e2⟩
theorem TLe.prob {n d : Nat} (S : TS) (k b : Nat) : TLe n d S (S.prob k b) := ⟨Nat.le_refl _, Nat.le_refl _, fun _ h => h, fun y h => ⟨y, h, rfl, rfl⟩, fun x h => .inl ⟨x, h, rfl, rfl⟩⟩
theorem TLe.see {n d b : Nat} {S : TS} (hb : b < n) (h : S.sn b = false) : TLe n d S (S.see b) := by
  have := uns_see hb h
  refine ⟨?_, by omega, fun i hi => ?_, fun y h => ⟨y, h, rfl, rfl⟩, fun x h => .inl ⟨x, h, rfl, rfl⟩⟩
  · show S.it.length + (S.see b).uns n ≤ _
    omega
  · show (if i = b then true else S.sn i) = true
    split
    · rfl
    · exact hi
section
variable {n : Nat} {u : Nat → Nat → UInt8}
theorem tEnter_cases (S : TS) (b : Nat) (ok : Prop) : (b < n ∧ S.sn b = false ∧ usum (u b) 32 = 0 ∧ ok ∧ tEnter n u S b ok = (S.see b, true)) ∨ ∃ k, tEnter n u S b ok = (S.prob k b, false) := by
  unfold tEnter
  by_cases h1 : n ≤ b ∨ S.sn b = true
  · rw [if_pos h1]; exact .inr ⟨3, rfl⟩
  · rw [if_neg h1]
    by_cases h2 : usum (u b) 32 ≠ 0
    · rw [if_pos h2]; exact .inr ⟨1, rfl⟩
    · rw [if_neg h2]
      by_cases h3 : ok
      · rw [if_pos h3]
        exact .inl ⟨by omega, by cases hs : S.sn b with | false => rfl | true => exact absurd (.inr hs) h1, by simpa using h2, h3, rfl⟩
      · rw [if_neg h3]; exact .inr ⟨2, rfl⟩
theorem tEnter_it (S : TS) (b : Nat) (ok : Prop) : (tEnter n u S b ok).1.it = S.it := by
  rcases tEnter_cases (n := n) (u := u) S b ok with ⟨_, _, _, _, e⟩ | ⟨k, e⟩ <;> rw [e] <;> rfl
theorem tEnter_le (S : TS) (b d : Nat) (ok : Prop) : TLe n d S (tEnter n u S b ok).1 := by
  rcases tEnter_cases (n := n) (u := u) S b ok with ⟨h1, h2, _, _, e⟩ | ⟨k, e⟩
  · rw [e]; exact TLe.see h1 h2
  · rw [e]; exact TLe.prob _ _ _
theorem tEnter_mu (S : TS) (b : Nat) (ok : Prop) : (tEnter n u S b ok).1.mu n + (if (tEnter n u S b ok).2 = true then 20 else 0) ≤ S.mu n + (if (tEnter n u S b ok).2 = true then 0 else 1) := by
  rcases tEnter_cases (n := n) (u := u) S b ok with ⟨h1, h2, _, _, e⟩ | ⟨k, e⟩
  · rw [e]; simp only [if_true]; have := mu_see h1 h2; omega
  · rw [e]; simp only [Bool.false_eq_true, if_false]; have := mu_prob S n k b; omega
theorem tFile_it : ∀ (g : Nat) (S : TS) (f b k : Nat) (out : ByteArray), (tFile n u g S f b k out).1.it = S.it
  | 0, S, f, b, k, out => rfl
  | g + 1, S, f, b, k, out => by
    unfold tFile
    by_cases h0 : b = 0
    · rw [if_pos h0]; split <;> rfl
    · rw [if_neg h0]
      split
      · rw [tFile_it g]; exact tEnter_it _ _ _
      · exact tEnter_it _ _ _
theorem tFile_le (d : Nat) : ∀ (g : Nat) (S : TS) (f b k : Nat) (out : ByteArray), TLe n d S (tFile n u g S f b k out).1
  | 0, S, f, b, k, out => TLe.refl _ _ _
  | g + 1, S, f, b, k, out => by
    unfold tFile
    by_cases h0 : b = 0
    · rw [if_pos h0]
      split
      · exact TLe.refl _ _ _
      · exact TLe.prob _ _ _
    · rw [if_neg h0]
      split
      · exact (tEnter_le _ _ _ _).trans (tFile_le d g _ _ _ _ _)
      · exact tEnter_le _ _ _ _
theorem tFile_mu : ∀ (g : Nat) (S : TS) (f b k : Nat) (out : ByteArray), (tFile n u g S f b k out).1.mu n ≤ S.mu n + 1
  | 0, S, f, b, k, out => Nat.le_succ _
  | g + 1, S, f, b, k, out => by
    unfold tFile
    by_cases h0 : b = 0
    · rw [if_pos h0]
      split
      · exact Nat.le_succ _
      · exact Nat.le_of_eq (mu_prob _ _ _ _)
    · rw [if_neg h0]
      have hm := tEnter_mu (n := n) (u := u) S b (tPart (u b) f k)
      split
      · rename_i h
        have ih := tFile_mu g (tEnter n u S b (tPart (u b) f k)).1 f (u b 4).toNat (k + 1) (out ++ tDat (u b))
        rw [h] at hm
        simp only [if_true] at hm
        omega
      · rename_i h
        rw [if_neg h, if_neg h] at hm
        omega
theorem tNote_le {S : TS} {d h b : Nat} (path : ByteArray) {S0 : TS} (h0 : S = S0.see b) (hb : b < n) (hs : S0.sn b = false) (hd : S0.sn d = true) : TLe n d S0 (tNote u S d h b path) := by
  have hu := uns_see hb hs
  have e1 : (tNote u S d h b path).uns n = (S0.see b).uns n := by
    rw [← h0]
    unfold tNote
    by_cases hq : tDbl u S d h b = true
    · rw [if_pos hq]; rfl
    · rw [if_neg hq]; rfl
  have e2 : (tNote u S d h b path).sn = (S0.see b).sn := by
    rw [← h0]
    unfold tNote
    by_cases hq : tDbl u S d h b = true
    · rw [if_pos hq]; rfl
    · rw [if_neg hq]
  have e3 : (tNote u S d h b path).it = S0.it ++ [⟨d, b, tnm (u b), path ++ tnm (u b), decide (u b 0 = 4), tDbl u S d h b, ⟨#[]⟩, false⟩] := by
    unfold tNote
    rw [h0]
    rfl
  refine ⟨?_, by omega, fun i hi => ?_, fun y hy => ⟨y, by rw [e3]; exact List.mem_append_left _ hy, rfl, rfl⟩, fun x hx => ?_⟩
  · rw [e1, e3, List.length_append]
    simp
    omega
  · rw [e2]
    show (if i = b then true else S0.sn i) = true
    split
    · rfl
    · exact hi
  · rw [e3] at hx
    rcases List.mem_append.1 hx with h1 | h1
    · exact .inl ⟨x, h1, rfl, rfl⟩
    · rw [List.mem_singleton] at h1
      subst h1
      refine .inr ⟨.inr rfl, ?_⟩
      rw [e2]
      show (if d = b then true else S0.sn d) = true
      split
      · rfl
      · exact hd
theorem tNote_mu (S : TS) (d h b : Nat) (path : ByteArray) : (tNote u S d h b path).mu n ≤ S.mu n + 1 := by
  unfold tNote
  split
  · exact Nat.le_of_eq (mu_prob S n 4 b)
  · exact Nat.le_succ _
theorem setLast_snoc (L : List TIt) (x : TIt) (o : Option ByteArray) : setLast (L ++ [x]) o = L ++ [{ x with dat := datO o, whl := o.isSome }] := by
  unfold setLast
  simp
theorem setLast_len (L : List TIt) (o : Option ByteArray) : (setLast L o).length = L.length := by
  rcases List.eq_nil_or_concat L with rfl | ⟨l, x, rfl⟩
  · rfl
  · rw [List.concat_eq_append, setLast_snoc]; simp
theorem setLast_mem {L : List TIt} {o : Option ByteArray} : (∀ y, y ∈ L → ∃ x, x ∈ setLast L o ∧ x.dir = y.dir ∧ x.nm = y.nm) ∧ ∀ x, x ∈ setLast L o → ∃ y, y ∈ L ∧ y.dir = x.dir ∧ y.nm = x.nm := by
  rcases List.eq_nil_or_concat L with rfl | ⟨l, z, rfl⟩
  · exact ⟨fun y hy => (by cases hy), fun x hx => (by simp [setLast] at hx)⟩
  · rw [List.concat_eq_append, setLast_snoc]
    constructor
    · intro y hy
      rcases List.mem_append.1 hy with h | h
      · exact ⟨y, List.mem_append_left _ h, rfl, rfl⟩
      · rw [List.mem_singleton] at h; subst h
        exact ⟨_, List.mem_append_right _ (List.mem_singleton.2 rfl), rfl, rfl⟩
    · intro x hx
      rcases List.mem_append.1 hx with h | h
      · exact ⟨x, List.mem_append_left _ h, rfl, rfl⟩
      · rw [List.mem_singleton] at h; subst h
        exact ⟨z, List.mem_append_right _ (List.mem_singleton.2 rfl), rfl, rfl⟩
theorem TLe.last {d : Nat} {S S1 : TS} (h : TLe n d S S1) {S2 : TS} {o : Option ByteArray} (he : S2.it = setLast S1.it o) (hp : S2.sn = S1.sn) : TLe n d S S2 := by
  have hu : S2.uns n = S1.uns n := by unfold TS.uns; rw [hp]
  refine ⟨by rw [he, setLast_len, hu]; exact h.itl, by rw [hu]; exact h.uns, fun i hi => by rw [hp]; exact h.sn i hi, fun y hy => ?_, fun x hx => ?_⟩
  · obtain ⟨x, hx, e1, e2⟩ := h.fwd y hy
    obtain ⟨z, hz, e3, e4⟩ := (setLast_mem (o := o)).1 x hx
    exact ⟨z, by rw [he]; exact hz, e3.trans e1, e4.trans e2⟩
  · rw [he] at hx
    obtain ⟨y, hy, e1, e2⟩ := setLast_mem.2 x hx
    rcases h.bwd y hy with ⟨z, hz, e3, e4⟩ | ⟨h3, h4⟩
    · exact .inl ⟨z, hz, e3.trans e1, e4.trans e2⟩
    · rw [e1] at h3 h4
      rw [hp]
      exact .inr ⟨h3, h4⟩
theorem foldT {d : Nat} {F : TS → Nat → TS} (hF : ∀ T k, T.sn d = true → TLe n d T (F T k) ∧ (F T k).mu n ≤ T.mu n + 1) : ∀ (l : List Nat) (S : TS), S.sn d = true → TLe n d S (l.foldl F S) ∧ (l.foldl F S).mu n ≤ S.mu n + l.length
  | [], S, _ => ⟨TLe.refl _ _ _, Nat.le_refl _⟩
  | k :: l, S, hs => by
    obtain ⟨h1, h2⟩ := hF S k hs
    obtain ⟨h3, h4⟩ := foldT hF l (F S k) (h1.sn _ hs)
    exact ⟨h1.trans h3, by simp only [List.foldl_cons, List.length_cons]; omega⟩
theorem tChn_le : ∀ (g : Nat) (path : ByteArray) (d h b : Nat) (S : TS), S.sn d = true → TLe n d S (tChn n u g path d h b S) ∧ (tChn n u g path d h b S).mu n ≤ S.mu n + 1
  | 0, path, d, h, b, S, _ => ⟨TLe.refl _ _ _, Nat.le_succ _⟩
  | g + 1, path, d, h, b, S, hd => by
    unfold tChn
    by_cases h0 : b = 0
    · rw [if_pos h0]; exact ⟨TLe.refl _ _ _, Nat.le_succ _⟩
    · rw [if_neg h0]
      have hm := tEnter_mu (n := n) (u := u) S b (tEnt (u b) d)
      rcases tEnter_cases (n := n) (u := u) S b (tEnt (u b) d) with ⟨h1, h2, _, _, e⟩ | ⟨k, e⟩
      · rw [e] at hm ⊢
        simp only [if_true] at hm ⊢
        have hn := tNote_le (n := n) (u := u) (S := S.see b) (S0 := S) (h := h) path rfl h1 h2 hd
        have hnm := tNote_mu (n := n) (u := u) (S.see b) d h b path
        by_cases h4 : u b 0 = 4
        · rw [if_pos h4]
          have hsb : (tNote u (S.see b) d h b path).sn b = true := by
            unfold tNote
            split <;> simp [TS.see, TS.prob]
          obtain ⟨f1, f2⟩ := foldT (n := n) (d := b) (F := fun T k => tChn n u g (path ++ tnm (u b) ++ slashB) b k (u b (12 + k)).toNat T) (fun T k hT => tChn_le g _ b k _ T hT) (List.range 8) _ hsb
          rw [List.length_range] at f2
          have hi := hn.inner f1 h2
          obtain ⟨c1, c2⟩ := tChn_le g path d h (u b 2).toNat _ (hi.sn _ hd)
          exact ⟨hi.trans c1, by omega⟩
        · rw [if_neg h4]
          have f1 := tFile_le (n := n) (u := u) d 256 (tNote u (S.see b) d h b path) b (u b 14).toNat 1 ⟨#[]⟩
          have f2 := tFile_mu (n := n) (u := u) 256 (tNote u (S.see b) d h b path) b (u b 14).toNat 1 ⟨#[]⟩
          have f3 := tFile_it (n := n) (u := u) 256 (tNote u (S.see b) d h b path) b (u b 14).toNat 1 ⟨#[]⟩
          generalize tFile n u 256 (tNote u (S.see b) d h b path) b (u b 14).toNat 1 ⟨#[]⟩ = F at f1 f2 f3 ⊢
          have hl : TLe n d S { F.1 with it := setLast (tNote u (S.see b) d h b path).it F.2 } := (hn.trans f1).last (o := F.2) (by rw [f3]) rfl
          have hl2 : ({ F.1 with it := setLast (tNote u (S.see b) d h b path).it F.2 } : TS).mu n = F.1.mu n := rfl
          obtain ⟨c1, c2⟩ := tChn_le g path d h (u b 2).toNat _ (hl.sn _ hd)
          refine ⟨hl.trans c1, Nat.le_trans c2 ?_⟩
          rw [hl2]
          omega
      · rw [e] at hm ⊢
        simp only [Bool.false_eq_true, if_false] at hm ⊢
        exact ⟨TLe.prob _ _ _, by omega⟩
end
end Go.Proofs.YtiefcgmghkkbmaaGreatDoor
