/-
  Disks of extents: the entries in a map of the call's own; rows of entries: plain.
-/
import Derived.Test.YtmgcaiilocifbaaGreatDoorXnT
import Derived.OwnWalk
namespace Go.Proofs.YtmgcaiilocifbaaGreatDoor
open Go Go.ChangeShapes Go.WideShapes Go.ChangeAt Go.RowKit lib
set_option linter.unusedVariables false
set_option linter.unusedSimpArgs false
set_option maxRecDepth 100000
theorem own_neX {w : World} {B B' e e' k k' n n' : Nat} {v v' : Value} {xs xs' : List Value} (h : w.ownsRow B e k v n xs) (h' : w.ownsRow B' e' k' v' n' xs') (hne : e ≠ e') : v.ownBlock = none ∨ v.ownBlock ≠ v'.ownBlock := by
  rcases h.2 with ⟨hv, _⟩ | ⟨g, cap, cur, hv, _, hg, _⟩
  · left; rw [hv]; rfl
  · rcases h'.2 with ⟨hv', _⟩ | ⟨g', cap', cur', hv', _, hg', _⟩
    · right; rw [hv, hv']; simp [Value.ownBlock]
    · right
      rw [hv, hv']
      simp only [Value.ownBlock]
      intro e
      injection e with e
      subst e
      rw [hg] at hg'
      injection hg' with hg'
      injection hg' with _ h2 _
      exact hne h2
theorem own_neM {P : Program} {kt : TypeId} {w : World} {B e k n b cnt : Nat} {v : Value} {xs : List Value} {F : Int → Option Value} (h : w.ownsRow B e k v n xs) (h' : VMap P kt w b cnt F) : v.ownBlock = none ∨ v.ownBlock ≠ some b := by
  obtain ⟨D, ⟨es, cl, hb, _⟩, _⟩ := h'
  rcases h.2 with ⟨hv, _⟩ | ⟨g, cap, cur, hv, _, hg, _⟩
  · left; rw [hv]; rfl
  · right
    rw [hv]
    simp only [Value.ownBlock]
    intro e
    injection e with e
    subst e
    rw [hg] at hb
    cases hb
theorem tIE : 2 ≠ 38 := by decide
theorem IntR.grownX {B c : Nat} {w w' : World} {A : Option Addr} {l : List Int} {row : Option Nat} (h : IntR B w A c l) (hb : w.grownBy w' row) (hr : (Value.slice A l.length c).ownBlock = none ∨ (Value.slice A l.length c).ownBlock ≠ row) : IntR B w' A c l := World.ownsRow.kept h hb hr
open Classical in
/-- the entries below k of a kind, as a map says them -/
noncomputable def usedF (en : Nat → XE) (us : Nat → Prop) (a : Nat → Option Addr) (cc : Nat → Nat) (k : Nat) (x : Int) : Option Value :=
  if 0 ≤ x ∧ x.toNat < k ∧ us x.toNat then some ((en x.toNat).val (a x.toNat) (cc x.toNat)) else none
/-- the map at block m holds the entries below k of a kind; the numbers of their blocks lie at a, cc -/
def XMapA (P : Program) (kt : TypeId) (lo : Nat) (w : World) (m k : Nat) (en : Nat → XE) (us : Nat → Prop) (a : Nat → Option Addr) (cc : Nat → Nat) : Prop :=
  (∃ cnt : Nat, cnt ≤ k ∧ VMap P kt w m cnt (usedF en us a cc k)) ∧ ∀ j, j < k → us j → IntR lo w (a j) (cc j) (en j).bl
def XMap (P : Program) (kt : TypeId) (lo : Nat) (w : World) (m k : Nat) (en : Nat → XE) (us : Nat → Prop) : Prop := ∃ a cc, XMapA P kt lo w m k en us a cc
section
variable {P : Program} {kt : TypeId} {lo m k : Nat} {w w' : World} {en : Nat → XE} {us : Nat → Prop} {a : Nat → Option Addr} {cc : Nat → Nat}
open Classical in
theorem XMap.made (w : World) : XMap P kt lo (w.alloc (.map #[] 0)) w.heap.size 0 en us :=
  ⟨fun _ => none, fun _ => 0, ⟨0, Nat.le_refl _, (VMap.made w).congr fun x _ => by unfold usedF; rw [if_neg (by omega)]⟩, fun j hj => absurd hj (by omega)⟩
theorem XMapA.lt (h : XMapA P kt lo w m k en us a cc) : m < w.heap.size := by obtain ⟨⟨_, _, h⟩, _⟩ := h; exact h.lt
theorem XMapA.below (h : XMapA P kt lo w m k en us a cc) (hb : Below w.heap.size w w') : XMapA P kt lo w' m k en us a cc := by
  obtain ⟨⟨cnt, h1, h2⟩, h3⟩ := h
  exact ⟨⟨cnt, h1, h2.below hb⟩, fun j hj hu => (h3 j hj hu).below hb⟩
theorem XMap.below (h : XMap P kt lo w m k en us) (hb : Below w.heap.size w w') : XMap P kt lo w' m k en us := by
  obtain ⟨a, cc, h⟩ := h
  exact ⟨a, cc, h.below hb⟩
theorem XMap.lt (h : XMap P kt lo w m k en us) : m < w.heap.size := by obtain ⟨_, _, h⟩ := h; exact h.lt
open Classical in
theorem XMap.miss (h : XMap P kt lo w m k en us) (hu : ¬ us k) : XMap P kt lo w m (k + 1) en us := by
  obtain ⟨a, cc, ⟨cnt, h1, h2⟩, h3⟩ := h
  refine ⟨a, cc, ⟨cnt, by omega, h2.congr fun x _ => ?_⟩, fun j hj hj2 => ?_⟩
  · unfold usedF
    by_cases hx : x.toNat = k
    · rw [if_neg (by rintro ⟨_, h, _⟩; omega), if_neg (by rintro ⟨_, _, h⟩; rw [hx] at h; exact hu h)]
    · have : x.toNat < k ↔ x.toNat < k + 1 := by omega
      simp only [this]
  · rcases Nat.lt_succ_iff_lt_or_eq.1 hj with h | rfl
    · exact h3 j h hj2
    · exact absurd hj2 hu
open Classical in
theorem XMap.hit {e t : TypeId} {A : Option Addr} {c : Nat} (h : XMap P kt lo w m k en us) (hu : us k) (hk : P.underlying kt = some (.int .i64)) (ht : P.underlying t = some (.map kt e)) (hk2 : k < 100000) (hi : IntR lo w A c (en k).bl) :
    ∃ w', (Instr.mapUpdate t (.map (some m)) (.int .i64 (k : Int)) ((en k).val A c)).run P w = .ok () w' ∧ XMap P kt lo w' m (k + 1) en us ∧ w.grownBy w' (some m) := by
  obtain ⟨a, cc, ⟨cnt, h1, h2⟩, h3⟩ := h
  obtain ⟨w', hrun, h4, hg⟩ := h2.store hk ht (by simp only [maxLen]; omega) (k : Int) (isI64_of (by omega) (by omega)) ((en k).val A c)
  refine ⟨w', hrun, ⟨fun j => if j = k then A else a j, fun j => if j = k then c else cc j, ⟨cnt + 1, by omega, h4.congr fun x _ => ?_⟩, fun j hj hj2 => ?_⟩, hg⟩
  · unfold usedF
    by_cases hx : x = (k : Int)
    · subst hx
      have hk' : ((k : Int)).toNat = k := by omega
      rw [if_pos rfl, if_pos ⟨by omega, by omega, by rw [hk']; exact hu⟩]
      simp only [hk', if_pos]
    · rw [if_neg hx]
      by_cases h0 : 0 ≤ x
      · have hne : x.toNat ≠ k := by omega
        have : x.toNat < k ↔ x.toNat < k + 1 := by omega
        simp only [this, if_neg hne]
      · rw [if_neg (fun q => h0 q.1), if_neg (fun q => h0 q.1)]
  · by_cases hjk : j = k
    · subst hjk
      simp only [if_pos]
      exact hi.grownX hg (own_neM hi h2)
    · simp only [if_neg hjk]
      have := h3 j (by omega) hj2
      exact this.grownX hg (own_neM this h2)
open Classical in
/-- looked up -/
theorem XMapA.look {e t : TypeId} (h : XMapA P kt lo w m k en us a cc) (hk : P.underlying kt = some (.int .i64)) (ht : P.underlying t = some (.map kt e)) (hz : (zeroValue e).run P w = .ok (xe0.val none 0) w) (j : Nat) (hj : j < k) (hk2 : k < 100000) :
    (us j → (Instr.lookup t (.map (some m)) (.int .i64 (j : Int)) true).run P w = .ok (.tuple #[(en j).val (a j) (cc j), .bool true]) w) ∧ (¬ us j → (Instr.lookup t (.map (some m)) (.int .i64 (j : Int)) true).run P w = .ok (.tuple #[xe0.val none 0, .bool false]) w) := by
  obtain ⟨⟨cnt, h1, h2⟩, h3⟩ := h
  have hl := h2.look hk ht hz (j : Int) (isI64_of (by omega) (by omega))
  have hj' : ((j : Int)).toNat = j := by omega
  refine ⟨fun hu => ?_, fun hu => ?_⟩
  · rw [hl]
    unfold usedF
    rw [if_pos ⟨by omega, by omega, by rw [hj']; exact hu⟩]
    simp only [hj']
    rfl
  · rw [hl]
    unfold usedF
    rw [if_neg (by rintro ⟨_, _, q⟩; rw [hj'] at q; exact hu q)]
    rfl
end
/-- an entry's cells -/
def XE.cells (e : XE) (A : Option Addr) (c : Nat) : List Value := [.int .i64 e.st, .string e.nm, .int .i64 e.no, .int .i64 e.tl, .slice A e.bl.length c]
/-- a row of n entries of the call's own -/
def ERow (B : Nat) (w : World) (A : Option Addr) (n c : Nat) (L : List (XE × Option Addr × Nat)) : Prop := w.ownsRow B 38 5 (.slice A n c) n (L.flatMap fun p => p.1.cells p.2.1 p.2.2)
/-- a row of numbers of the call's own -/
def NatR (B : Nat) (w : World) (A : Option Addr) (c : Nat) (l : List Nat) : Prop := w.ownsRow B 2 1 (.slice A l.length c) l.length (l.map fun (i : Nat) => Value.int .i64 (i : Int))
theorem natR_nil (B : Nat) (w : World) : NatR B w none 0 [] := World.ownsRow_nil _ _ _ _
theorem NatR.below {B c : Nat} {w w' : World} {A : Option Addr} {l : List Nat} (h : NatR B w A c l) (hb : Below w.heap.size w w') : NatR B w' A c l := own_below h hb
theorem NatR.base {B B' c : Nat} {w : World} {A : Option Addr} {l : List Nat} (h : NatR B w A c l) (hB : B' ≤ B) : NatR B' w A c l := own_base h hB
theorem NatR.sl {B c : Nat} {w : World} {A : Option Addr} {l : List Nat} (h : NatR B w A c l) : Sl w w.heap.size A l.length (fun i => .int .i64 ((l.getD i 0 : Nat) : Int)) := by
  have := own_sl h
  rw [Nat.mul_one] at this
  refine this.congr fun i hi => ?_
  simp [List.getD_eq_getElem?_getD, hi]
/-- their blocks' numbers, all below block Bd -/
def ESl (Bd : Nat) (w : World) (L : List (XE × Option Addr × Nat)) : Prop := ∀ p, p ∈ L → Sl w Bd p.2.1 p.1.bl.length (fun i => .int .i64 (p.1.bl.getD i 0))
theorem eRow_nil (B : Nat) (w : World) : ERow B w none 0 0 [] := World.ownsRow_nil _ _ _ _
theorem ERow.below {B n c : Nat} {w w' : World} {A : Option Addr} {L : List (XE × Option Addr × Nat)} (h : ERow B w A n c L) (hb : Below w.heap.size w w') : ERow B w' A n c L := own_below h hb
theorem ESl.below {Bd : Nat} {w w' : World} {L : List (XE × Option Addr × Nat)} (h : ESl Bd w L) (hb : Below Bd w w') : ESl Bd w' L := fun p hp => (h p hp).below hb
theorem ESl.more {Bd B2 : Nat} {w : World} {L : List (XE × Option Addr × Nat)} (h : ESl Bd w L) (hB : Bd ≤ B2) : ESl B2 w L := fun p hp => (h p hp).more hB
section
variable {P : Program} {w w0 : World}
/-- 'out = append(out, x)', x of k cells: x lies in a new block of its own -/
theorem wpList_pushN {ops : Array Oper} {rest : List Oper} {o : Oper} {a : Act} {Q : Exit → Act → World → Prop} (s x : Operand) (t : TypeId) (base e : Nat) (z : Value) (us : List Value) (k bytes : Nat) (v : Value) (n : Nat) (xs : List Value)
    (hown : w0.ownsRow base e k v n xs) (hg : o.guard = none) (hop : o.op = .call { callee := .builtin .append, args := #[s, x], argTypes := #[t, t] })
    (h1 : P.underlying t = some (.slice e)) (hinfo : (P.info? e).map (fun i => (i.zero, i.size, i.bytes)) = some (some z, k, bytes)) (hz : z.cells.size = k) (hk : 0 < k) (hus : us.length = k)
    (hs : a.eval s = v) (hx : a.eval x = .slice (some ⟨w0.heap.size, 0, none⟩) 1 1) (hw : w = w0.alloc (.cells us.toArray e)) (hu : ∀ u, u ∈ us → u.oneCell' = true) (hn : n ≤ 1099511627776) (hby : bytes ≤ 64) (hbase : base ≤ w0.heap.size)
    (hK : ∀ A' c' w1, w1.ownsRow base e k (.slice (some A') (n + 1) c') (n + 1) (xs ++ us) → w0.grownBy w1 v.ownBlock → wpList P ops Q rest (a.put o.dst (.slice (some A') (n + 1) c')) w1) :
    wpList P ops Q (o :: rest) a w := by
  obtain ⟨i0, hi, hz0, hz1, hz2⟩ := info_parts hinfo
  subst hw
  have hb : (n + 1) * bytes ≤ 140737488355328 := by
    have := Nat.mul_le_mul (show n + 1 ≤ 1099511627777 by omega) hby
    omega
  refine wpList_append_own _ hg s x t hop base e i0 z k bytes h1 hi hz0 hz1 hz2 hz hk v n xs hs (hown.alloc _) ⟨w0.heap.size, 0, none⟩ 1 1 us hx (by rw [hus, Nat.one_mul]) ?_ hu (by simp only [maxLen]; omega) hb (by simp; omega) ?_
  · intro j q hq
    rw [Addr.add_lit, Nat.zero_add, World.cell?_alloc_new]
    simpa using hq
  · intro v' w1 hown1 hgrow _
    obtain ⟨g, cap, rfl, _, _⟩ := hown1.form (by omega)
    exact hK _ _ _ hown1 (only_trans (only_alloc (only_refl _ _) _) hgrow)
end
theorem news5 (w : World) (e : Nat) (x y z u v : Value) : ∀ (j : Nat) (q : Value), [x, y, z, u, v][j]? = some q → ((w.alloc (.cells #[x, y, z, u, v] e))).cell? ((⟨w.heap.size, 0, none⟩ : Addr).add j) = some q := by
  intro j q h
  match j with
  | 0 => have : q = x := by simpa using h.symm
         subst this; exact World.cell?_alloc_new w #[q, y, z, u, v] e 0
  | 1 => have : q = y := by simpa using h.symm
         subst this; exact World.cell?_alloc_new w #[x, q, z, u, v] e 1
  | 2 => have : q = z := by simpa using h.symm
         subst this; exact World.cell?_alloc_new w #[x, y, q, u, v] e 2
  | 3 => have : q = u := by simpa using h.symm
         subst this; exact World.cell?_alloc_new w #[x, y, z, q, v] e 3
  | 4 => have : q = v := by simpa using h.symm
         subst this; exact World.cell?_alloc_new w #[x, y, z, u, q] e 4
  | j + 5 => simp at h
end Go.Proofs.YtmgcaiilocifbaaGreatDoor
