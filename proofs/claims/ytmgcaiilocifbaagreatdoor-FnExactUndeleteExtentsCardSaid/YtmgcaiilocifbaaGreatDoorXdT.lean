/-
  Disks of extents: a file is deleted: both sides.
-/
import Derived.Test.YtmgcaiilocifbaaGreatDoorXsT
import Derived.Test.YtmgcaiilocifbaaGreatDoorXuS
import Derived.Deep.DeepCutAuto
namespace Go.Proofs.YtmgcaiilocifbaaGreatDoor
open Go Go.ChangeShapes Go.WideShapes Go.ChangeAt Go.RowKit lib
set_option linter.unusedVariables false
set_option linter.unusedSimpArgs false
set_option maxRecDepth 100000
theorem marks_same {z : Nat} {x : UInt8} {k i : Nat} (hi : i < 16) : ∀ (l : List Nat) (U : Nat → UInt8), k ∉ l → marksX z U x l (z + k * 16 + i) = U (z + k * 16 + i)
  | [], U, _ => rfl
  | a :: l, U, h => by
    rw [marksX, marks_same hi l _ (fun q => h (List.mem_cons_of_mem _ q)), upd_other]
    intro e
    have : k ≠ a := fun q => h (by rw [q]; exact List.mem_cons_self)
    omega
open Classical in
theorem picks_nodup (Q : Nat → Prop) (E : Nat) : (picks Q E).Nodup := List.Nodup.sublist List.filter_sublist List.nodup_range
theorem take_more {l : List Nat} {j : Nat} (h : j < l.length) : l.take (j + 1) = l.take j ++ [l.getD j 0] := by
  rw [List.take_add_one, List.getElem?_eq_getElem h, List.getD_eq_getElem?_getD, List.getElem?_eq_getElem h]
  rfl
theorem not_taken {l : List Nat} (h : l.Nodup) {j : Nat} (hj : j < l.length) : l.getD j 0 ∉ l.take j := by
  intro hm
  obtain ⟨i, hi, he⟩ := List.mem_iff_getElem.1 hm
  simp only [List.length_take] at hi
  rw [List.getElem_take, List.getD_eq_getElem?_getD, List.getElem?_eq_getElem hj] at he
  have := (List.getElem_inj h).1 he
  omega
theorem getD_mem {l : List Nat} {j : Nat} (hj : j < l.length) : l.getD j 0 ∈ l := by
  rw [List.getD_eq_getElem?_getD, List.getElem?_eq_getElem hj]
  exact List.getElem_mem hj
/-- the used entries of a file on a disk -/
noncomputable def fileOf (n : Nat) (s : Nat → ByteArray) (nm : ByteArray) : List Nat := picks (usedBy (s 0).size (joinU (s 0).size s) nm) (entsX n)
/-- the disk's bytes when a file is deleted -/
noncomputable def delX (n : Nat) (s : Nat → ByteArray) (nm : ByteArray) : Nat → UInt8 := marksX (s 0).size (joinU (s 0).size s) 229 (fileOf n s nm)
open Classical in
noncomputable def delXCode (n : Nat) (s : Nat → ByteArray) : Int := if opensX n s then 3 else 7
theorem shapeX {n : Nat} {s : Nat → ByteArray} (h : opensX n s) : LayOk n (s 0).size ∧ 8 ≤ (s 0).size ∧ (s 0).size ≤ 32 ∧ n ≤ 128 ∧ 8 ≤ n ∧ n * (s 0).size ≤ 4096 ∧ entsX n ≤ 32 ∧ (∀ k, k < entsX n → (s 0).size + k * 16 + 16 ≤ n * (s 0).size) ∧ ∀ i, i < n → (s i).size = (s 0).size := by
  have hl : LayOk n (s 0).size := ⟨h.1.lo, h.1.hi, h.1.sz⟩
  have hz8 : 8 ≤ (s 0).size := by have := h.1.sz; omega
  have hz32 : (s 0).size ≤ 32 := by have := h.1.sz; omega
  exact ⟨hl, hz8, hz32, h.1.hi, h.1.lo, Nat.mul_le_mul h.1.hi hz32, (layX_data hl).2.2, fun k hk => layX_fits hl hk, h.1.all⟩
theorem noName {z : Nat} {U : Nat → UInt8} {E : Nat} : picks (usedBy z U ⟨#[]⟩) E = [] := by
  have : ∀ k, k ∉ picks (usedBy z U ⟨#[]⟩) E := fun k hk => by
    obtain ⟨_, h1, h2⟩ := mem_picks.1 hk
    exact names_ne (xen_name (by rw [h1]; decide)) h2
  exact List.eq_nil_iff_forall_not_mem.2 this
theorem usedAs_by {z : Nat} {U : Nat → UInt8} {E : Nat} {nm : ByteArray} (h : nm ≠ ⟨#[]⟩) : picks (usedAs z U nm) E = picks (usedBy z U nm) E :=
  picks_congr fun k _ => ⟨fun q => ⟨q.1, q.2.resolve_left h⟩, fun q => ⟨q.1, .inr q.2⟩⟩
theorem NatR.farX {B c : Nat} {w : World} {A : Option Addr} {l : List Nat} (h : NatR B w A c l) {p : Addr} (hp : p.block < B) (x : Value) : NatR B (w.setCell p x) A c l :=
  World.ownsRow.kept h (only_setCell (g := p.block) (only_refl w _) (.inl rfl) x) (by
    cases hv : (Value.slice A l.length c).ownBlock with
    | none => exact .inl rfl
    | some o => exact .inr fun e => by have := own_lt h o hv; simp only [Option.some.injEq] at e; omega)
theorem XW.put {w : World} {p g n z E t N c : Nat} {u : Nat → UInt8} (h : XW w p g n z E t N c u) (k : Nat) (x : UInt8) {v : Int} (hv : v = (x.toNat : Int)) : XW (w.setCell ⟨g, k, none⟩ (.int .u8 v)) p g n z E t N c (upd u k x) :=
  ⟨h.lay.far h.ne _, h.row.set x hv, h.ne⟩
end Go.Proofs.YtmgcaiilocifbaaGreatDoor
