/-
  Disks of extents: a file's contents: both sides.
  Disks of extents: a file's contents: the reference's side, whole.
-/
import Derived.Test.YtmgcaiilocifbaaGreatDoorXfU
import Derived.Test.YtmgcaiilocifbaaGreatDoorXrdZ
import Derived.Test.YtmgcaiilocifbaaGreatDoorXrdY
import Derived.Test.YtmgcaiilocifbaaGreatDoorStbZ
import Derived.Deep.DeepCutAuto
import Derived.Test.YtmgcaiilocifbaaGreatDoorXuS
namespace Go.Proofs.YtmgcaiilocifbaaGreatDoor
open Go Go.ChangeShapes Go.WideShapes Go.ChangeAt Go.RowKit lib
set_option linter.unusedVariables false
set_option linter.unusedSimpArgs false
set_option maxRecDepth 100000
theorem own_neRx {w : World} {B e e' k n g : Nat} {v : Value} {xs : List Value} {cs : Array Value} (h : w.ownsRow B e k v n xs) (hr : Rw w g e' cs) (hne : e ≠ e') : some g ≠ v.ownBlock := by
  rcases h.2 with ⟨hv, _⟩ | ⟨o, cap, cur, hv, _, hg, _⟩
  · rw [hv]; simp [Value.ownBlock]
  · rw [hv]
    simp only [Value.ownBlock]
    intro e
    injection e with e
    subst e
    unfold Rw at hr
    rw [hr] at hg
    injection hg with hg
    injection hg with _ h2 _
    exact hne h2.symm
theorem XW.keptX {w w' : World} {p g n z E t N c : Nat} {u : Nat → UInt8} {row : Option Nat} (h : XW w p g n z E t N c u) (hg : w.grownBy w' row) (hp : some p ≠ row) (hq : some g ≠ row) : XW w' p g n z E t N c u := by
  have hlt := h.row.lt
  obtain ⟨cs, ⟨fr, hr, hf⟩, h2⟩ := h.row
  exact ⟨rwGrown h.lay hg hp, ⟨cs, ⟨fr, (hg.block g hlt hq).trans hr, hf⟩, h2⟩, h.ne⟩
/-- the entries of a file, in the order of the directory -/
noncomputable def fileL (n : Nat) (s : Nat → ByteArray) (nm : ByteArray) : List XE := xlist (s 0).size (joinU (s 0).size s) (fileOf n s nm)
def readsX (n : Nat) (s : Nat → ByteArray) (L : List XE) : Prop := ∀ k, k < L.length → okS n (dataX n (s 0).size) (s 0).size L k
open Classical in
noncomputable def rdXCode (n : Nat) (s : Nat → ByteArray) (nm : ByteArray) : Int := if opensX n s then (if fileOf n s nm = [] then 3 else if readsX n s (fileL n s nm) then 0 else 10) else 7
open Classical in
noncomputable def rdXText (n : Nat) (s : Nat → ByteArray) (nm : ByteArray) : ByteArray := if rdXCode n s nm = 0 then tS (outS (joinU (s 0).size s) (s 0).size (fileL n s nm) (fileL n s nm).length) else ⟨#[]⟩
theorem rdX_none {n : Nat} {s : Nat → ByteArray} {nm : ByteArray} (ho : opensX n s) (h : fileOf n s nm = []) : rdXCode n s nm = 3 := by unfold rdXCode; rw [if_pos ho, if_pos h]
theorem rdX_bad {n : Nat} {s : Nat → ByteArray} {nm : ByteArray} (ho : opensX n s) (h : fileOf n s nm ≠ []) (h2 : ¬ readsX n s (fileL n s nm)) : rdXCode n s nm = 10 := by unfold rdXCode; rw [if_pos ho, if_neg h, if_neg h2]
theorem rdX_ok {n : Nat} {s : Nat → ByteArray} {nm : ByteArray} (ho : opensX n s) (h : fileOf n s nm ≠ []) (h2 : readsX n s (fileL n s nm)) : rdXCode n s nm = 0 := by unfold rdXCode; rw [if_pos ho, if_neg h, if_pos h2]
/-- an entry with a number of one byte -/
abbrev XN := { x : XT // 0 ≤ x.1.no ∧ x.1.no ≤ 31 }
instance : Inhabited XN := ⟨⟨(xe0, none, 0), by decide⟩⟩
def encN (x : XN) : List Value := x.1.1.cells x.1.2.1 x.1.2.2
def cmpN (x y : XN) : Int := x.1.1.no - y.1.1.no
theorem swo_no : Go.Sort.SWO (ltOf cmpN) := by
  have key : ∀ a b : XN, ltOf cmpN a b = decide (a.1.1.no < b.1.1.no) := fun a b => by
    unfold ltOf cmpN
    rw [Bool.eq_iff_iff, decide_eq_true_eq, decide_eq_true_eq]
    omega
  refine ⟨fun x => ?_, fun x y z => ?_, fun x y z => ?_⟩
  · rw [key]; simp
  · rw [key, key, key]; simp only [decide_eq_true_eq]; omega
  · rw [key, key, key]; simp only [decide_eq_false_iff_not]; omega
/-- a file's extents, sorted by their numbers -/
theorem sortX_any {w : World} {Bd c : Nat} {A : Option Addr} {T : List XT} (g : Nat) (hg : ∀ (x y : XN) (W : World), Calls Tryz.prog g (#[.agg (encN x).toArray, .agg (encN y).toArray] ++ #[]) W fun e w' => e = .returned (.int .i64 (cmpN x y)) ∧ ∃ q os', w' = Go.Sort.grow (W.drewN q) os') (eg : ∀ args w, (callFunc g args).run Tryz.prog w = .ok (.enter g args) w)
    (h : ERow Bd w A T.length c T) (hT : T.length ≤ 32) (hno : ∀ x, x ∈ T → 0 ≤ x.1.no ∧ x.1.no ≤ 31) :
    Calls Tryz.prog 22 #[.slice A T.length c, .func (.func g) #[] #[]] w fun e w' => e = .returned (.tuple #[]) ∧ ∃ D : List XT, D.Perm T ∧ D.length = T.length ∧ (D.Pairwise fun a b => a.1.no ≤ b.1.no) ∧ ERow Bd w' A T.length c D ∧ w.grownBy w' (Value.slice A T.length c).ownBlock := by
  obtain ⟨L, hL⟩ : ∃ L : List XN, L.map (·.1) = T := ⟨T.attachWith _ hno, by rw [List.map_attachWith]; simp; exact List.attach_map_subtype_val T⟩
  have hlen : L.length = T.length := by rw [← hL, List.length_map]
  have hflat : ∀ D : List XN, (D.map (·.1)).flatMap (fun p : XT => p.1.cells p.2.1 p.2.2) = D.flatMap encN := fun D => by
    rw [List.flatMap_map]; rfl
  have h' : w.ownsRow Bd 38 5 (.slice A L.length c) L.length (L.flatMap encN) := by
    unfold ERow at h
    rw [← hflat, hL, hlen]
    exact h
  have hs := sortStable_row encN (fun _ => rfl) (fun x v hv => by
    simp only [encN, XE.cells, List.mem_cons, List.not_mem_nil, or_false] at hv
    rcases hv with rfl | rfl | rfl | rfl | rfl <;> rfl) cmpN swo_no g #[] eg hg h' (by omega)
  rw [hlen] at hs
  refine hs.mono ?_
  rintro e w' ⟨rfl, D, hp, hl, hsrt, ho, hgr⟩
  refine ⟨rfl, D.map (·.1), by rw [← hL]; exact hp.map _, by rw [List.length_map]; exact hl, ?_, ?_, hgr⟩
  · rw [List.pairwise_map]
    refine hsrt.imp ?_
    intro a b hab
    unfold ltOf cmpN at hab
    rw [decide_eq_false_iff_not] at hab
    omega
  · unfold ERow
    rw [hflat]
    exact ho
end Go.Proofs.YtmgcaiilocifbaaGreatDoor
namespace Go.Proofs.YtmgcaiilocifbaaGreatDoor
open Go Go.ChangeShapes Go.WideShapes Go.ChangeAt Go.RowKit lib
set_option linter.unusedVariables false
set_option linter.unusedSimpArgs false
set_option maxRecDepth 100000
end Go.Proofs.YtmgcaiilocifbaaGreatDoor
