/-
  The valid list with a text: plain.
-/
import Derived.Test.YtdofpkdemmngeaaRfxF
import Derived.Test.YtdofpkdemmngeaaSplP
namespace Go.Proofs.Ytdofpkdemmngeaa
open Go Go.ChangeShapes Go.WideShapes Go.ChangeAt Go.RowKit lib
set_option linter.unusedVariables false
set_option maxRecDepth 100000
abbrev FileP : Type := ByteArray × ByteArray
def encP (f : FileP) : List Value := [.string f.1, .string f.2]
def nthF (L : List FileP) (j : Nat) : ByteArray := if j % 2 = 0 then (L.getD (j / 2) (⟨#[]⟩, ⟨#[]⟩)).1 else (L.getD (j / 2) (⟨#[]⟩, ⟨#[]⟩)).2
theorem nthF_fst (L : List FileP) (i : Nat) : nthF L (i * 2) = (L.getD i (⟨#[]⟩, ⟨#[]⟩)).1 := by
  unfold nthF
  rw [if_pos (by omega), show i * 2 / 2 = i by omega]
theorem nthF_snd (L : List FileP) (i : Nat) : nthF L (i * 2 + 1) = (L.getD i (⟨#[]⟩, ⟨#[]⟩)).2 := by
  unfold nthF
  rw [if_neg (by omega), show (i * 2 + 1) / 2 = i by omega]
/-- the text of a valid list -/
def IsText (s : ByteArray) (L : List FileP) : Prop := VF L.length (nthF L) ∧ ftx (nthF L) L.length = s
/-- a line read: a file, or none -/
def parseT (x : ByteArray) : Option FileP := (parseL x.data.toList).map fun p => (⟨p.1.toArray⟩, ⟨p.2.toArray⟩)
theorem parseT_line {L : List FileP} {i : Nat} (h : okF (nthF L) i) (hi : i < L.length) : parseT (lineS (nthF L) i) = some L[i] := by
  unfold parseT
  rw [parse_line h, Option.map_some, nthF_fst, nthF_snd, List.getD_eq_getElem?_getD, List.getElem?_eq_getElem hi]
  rfl
theorem isText_lines {s : ByteArray} {L : List FileP} (h : IsText s L) : (linesL s.data.toList).map (fun l => parseT ⟨l.toArray⟩) = L.map some := by
  have h1 := ftx_lines L.length [] h.1.2
  rw [List.append_nil, h.2, show linesL [] = [] from rfl, List.append_nil] at h1
  rw [h1, List.map_map]
  refine List.ext_getElem (by simp) fun i h3 h4 => ?_
  have hi : i < L.length := by simpa using h4
  simp only [List.getElem_map, List.getElem_range, Function.comp]
  exact parseT_line (h.1.2 i hi) hi
theorem isText_one {s : ByteArray} {L L' : List FileP} (h : IsText s L) (h' : IsText s L') : L = L' := by
  have := (isText_lines h).symm.trans (isText_lines h')
  exact (List.map_inj_right (fun a b e => Option.some.inj e)).1 this
/-- reading a text ended so -/
def RfOut (e : Nat) (s : ByteArray) (r : Ending) (w w' : World) : Prop :=
  ((∃ (L : List FileP) (A : Option Addr) (c : Nat), IsText s L ∧ r = .returned (.tuple #[.slice A L.length c, .bool true]) ∧ w'.ownsRow w.heap.size e 2 (.slice A L.length c) L.length (L.flatMap encP)) ∨
   ((∀ L, ¬ IsText s L) ∧ ∃ (A : Option Addr) (c : Nat), r = .returned (.tuple #[.slice A 0 c, .bool false]) ∧ w'.ownsRow w.heap.size e 2 (.slice A 0 c) 0 [])) ∧ Below w.heap.size w w'
theorem RfOut.good {e : Nat} {s : ByteArray} {w w' : World} {L : List FileP} {A : Option Addr} {c : Nat} (h : IsText s L) (ho : w'.ownsRow w.heap.size e 2 (.slice A L.length c) L.length (L.flatMap encP)) (hb : Below w.heap.size w w') : RfOut e s (.returned (.tuple #[.slice A L.length c, .bool true])) w w' := ⟨.inl ⟨L, A, c, h, rfl, ho⟩, hb⟩
theorem RfOut.bad {e : Nat} {s : ByteArray} {w w' : World} {A : Option Addr} {c : Nat} (h : ∀ L, ¬ IsText s L) (ho : w'.ownsRow w.heap.size e 2 (.slice A 0 c) 0 []) (hb : Below w.heap.size w w') : RfOut e s (.returned (.tuple #[.slice A 0 c, .bool false])) w w' := ⟨.inr ⟨h, A, c, rfl, ho⟩, hb⟩
/-- the cells of an own row of files -/
theorem encP_at : ∀ (L : List FileP) (j : Nat), j < L.length * 2 → (L.flatMap encP).getD j undef = .string (nthF L j)
  | [], j, h => by simp at h
  | f :: r, 0, _ => rfl
  | f :: r, 1, _ => rfl
  | f :: r, j + 2, h => by
    have ih := encP_at r j (by simp at h; omega)
    have e : nthF (f :: r) (j + 2) = nthF r j := by
      unfold nthF
      rw [show (j + 2) % 2 = j % 2 by omega, show (j + 2) / 2 = j / 2 + 1 by omega, List.getD_cons_succ]
    rw [e, ← ih]
    rfl
theorem own_slF {w : World} {B e n c : Nat} {A : Option Addr} {L : List FileP} (h : w.ownsRow B e 2 (.slice A n c) n (L.flatMap encP)) (hn : n = L.length) : Sl w w.heap.size A (n * 2) (fun j => .string (nthF L j)) := (own_sl h).congr fun i hi => encP_at L i (by omega)
theorem encP_flat (L : List FileP) : L.flatMap encP = (List.range (L.length * 2)).map fun (i : Nat) => Value.string (nthF L i) := by
  have hl : (L.flatMap encP).length = L.length * 2 := by
    induction L with
    | nil => rfl
    | cons f r ih => rw [List.flatMap_cons, List.length_append, ih, List.length_cons]; simp [encP]; omega
  refine List.ext_getElem (by rw [hl]; simp) fun j h1 h2 => ?_
  have := encP_at L j (by omega)
  rw [List.getD_eq_getElem?_getD, List.getElem?_eq_getElem h1] at this
  simpa using this
theorem RfOut.is {e : Nat} {s : ByteArray} {r : Ending} {w w' : World} {L : List FileP} (hL : IsText s L) (h : RfOut e s r w w') : ∃ (A : Option Addr) (c : Nat), r = .returned (.tuple #[.slice A L.length c, .bool true]) ∧ w'.ownsRow w.heap.size e 2 (.slice A L.length c) L.length ((List.range (L.length * 2)).map fun (i : Nat) => Value.string (nthF L i)) ∧ Below w.heap.size w w' := by
  obtain ⟨⟨L', A, c, h1, h2, h3⟩ | ⟨h1, _⟩, hb⟩ := h
  · obtain rfl := isText_one hL h1
    rw [encP_flat] at h3
    exact ⟨A, c, h2, h3, hb⟩
  · exact absurd hL (h1 L)
theorem RfOut.no {e : Nat} {s : ByteArray} {r : Ending} {w w' : World} (hL : ¬ ∃ L, IsText s L) (h : RfOut e s r w w') : ∃ (A : Option Addr) (c : Nat), r = .returned (.tuple #[.slice A 0 c, .bool false]) ∧ w'.ownsRow w.heap.size e 2 (.slice A 0 c) 0 ((List.range (0 * 2)).map fun (i : Nat) => Value.string (nthF [] i)) ∧ Below w.heap.size w w' := by
  obtain ⟨⟨L', A, c, h1, h2, h3⟩ | ⟨h1, A, c, h2, h3⟩, hb⟩ := h
  · exact absurd ⟨L', h1⟩ hL
  · exact ⟨A, c, h2, h3, hb⟩
/-! the reference's lines -/
def lineP (l : List UInt8) : Option (List UInt8 × List UInt8) :=
  match splitB 32 l with
  | [a, b] => if b = [] then none else if b = [45] then some (a, []) else if 8192 < b.length then none else (unhex b).map fun d => (a, d)
  | _ => none
theorem lineP_two {l a b : List UInt8} (h : splitB 32 l = [a, b]) : lineP l = if b = [] then none else if b = [45] then some (a, []) else if 8192 < b.length then none else (unhex b).map fun d => (a, d) := by
  unfold lineP
  rw [h]
theorem lineP_not {l : List UInt8} (h : (splitB 32 l).length ≠ 2) : lineP l = none := by
  unfold lineP
  split
  · rename_i a b e
    rw [e] at h
    exact absurd rfl h
  · rfl
theorem lineP_back {l a d : List UInt8} (h : lineP l = some (a, d)) : l = a ++ 32 :: datL d := by
  unfold lineP at h
  have hj := joinB_split 32 l
  split at h
  · rename_i a' b e
    rw [e] at hj
    have hl : l = a' ++ 32 :: b := by rw [← hj]; rfl
    split at h
    · cases h
    · rename_i hb
      split at h
      · rename_i hb2
        cases h
        rw [hl, hb2]
        rfl
      · split at h
        · cases h
        · cases hu : unhex b with
          | none => rw [hu] at h; cases h
          | some d' =>
            rw [hu] at h
            cases h
            have h2 := hexL_unhex b d hu
            have hd : d ≠ [] := fun e => hb (by rw [← h2, e]; rfl)
            rw [hl]
            unfold datL
            rw [if_neg hd, h2]
  · cases h
theorem lineP_line {a d : List UInt8} (ha : (32 : UInt8) ∉ a) (hd : d.length ≤ 512) : lineP (a ++ 32 :: datL d) = some (a, d) := by
  have h1 : splitB 32 (a ++ 32 :: datL d) = [a, datL d] := by
    rw [splitB_piece a ha, splitB_none _ (fun e => (datL_no d 32 e).2 rfl)]
  rw [lineP_two h1]
  by_cases h : d = []
  · subst h
    rfl
  · have h2 : datL d = hexL d := by unfold datL; rw [if_neg h]
    have hu := unhex_hexL d
    have hl := unhex_len _ _ hu
    have h3 := datL_read d
    rcases h3 with ⟨_, h3⟩ | ⟨h3, h4⟩
    · exact absurd h3 h
    · rw [if_neg (fun e => by rw [h2] at e; rw [e] at hl; rw [List.length_nil] at hl
                              exact h (List.eq_nil_of_length_eq_zero (by omega))), if_neg h3, if_neg (by rw [h2]; omega), h4]
      rfl
end Go.Proofs.Ytdofpkdemmngeaa
