/-
  A problem's text, plain: decimals, the words of the kinds; an array of texts that a variable holds; a struct of three integers among a law's arguments.
-/
import Derived.Test.YtabmdbhbbmnkdaaDoorBase
import Derived.Lib.ItoaNum
import Derived.Lib.LaidTab
import Derived.Lib.SmallJoins
import Derived.LaidSub
import Derived.Deep.RegionLaw
import Derived.Deep.CutBlock
namespace Go.Proofs.YtabmdbhbbmnkdaaDoor
open Go Go.ChangeShapes Go.WideShapes Go.ChangeAt Go.RowKit lib
set_option linter.unusedVariables false
set_option maxRecDepth 100000
/-- a number in decimal -/
def decT (n : Nat) : ByteArray := ⟨(Lib.decDigits n).toArray⟩
theorem decT_small {n : Nat} (h : n < 10) : decT n = ⟨#[UInt8.ofNat (48 + n)]⟩ := by unfold decT; rw [Lib.decDigits, dif_pos h]
theorem decT_big {n : Nat} (h : ¬ n < 10) : decT (n / 10) ++ ⟨#[UInt8.ofNat (48 + n % 10)]⟩ = decT n := by
  have e : Lib.decDigits n = Lib.decDigits (n / 10) ++ [UInt8.ofNat (48 + n % 10)] := by rw [Lib.decDigits, dif_neg h]
  unfold decT
  rw [e]
  apply ByteArray.ext
  simp
theorem decT_size : ∀ (n : Nat), (decT n).size ≤ n + 1 := by
  intro n
  induction n using Nat.strongRecOn with
  | ind n ih =>
    by_cases h : n < 10
    · rw [decT_small h]; show 1 ≤ n + 1; omega
    · have := ih (n / 10) (by omega)
      rw [← decT_big h, ByteArray.size_append]
      show (decT (n / 10)).size + 1 ≤ n + 1
      omega
/-- the words of the kinds -/
def wordsB : List ByteArray := [⟨#[]⟩, ⟨#[114, 101, 115, 101, 114, 118, 101, 100]⟩, ⟨#[101, 110, 116, 114, 121]⟩, ⟨#[116, 119, 105, 99, 101]⟩, ⟨#[114, 97, 110, 103, 101]⟩, ⟨#[108, 111, 111, 112]⟩, ⟨#[99, 114, 111, 115, 115]⟩, ⟨#[111, 112, 101, 110]⟩, ⟨#[115, 104, 111, 114, 116]⟩, ⟨#[108, 111, 110, 103]⟩, ⟨#[108, 111, 115, 116]⟩]
def wordAt (k : Nat) : ByteArray := wordsB.getD k ⟨#[]⟩
theorem wordAt_size : ∀ k, k < 11 → (wordAt k).size ≤ 8 := by decide
/-- a problem's kind, entry and block within their bounds -/
def pbOk (a b c : Int) : Prop := (1 ≤ a ∧ a ≤ 10) ∧ (0 ≤ b ∧ b ≤ 15) ∧ (0 ≤ c ∧ c ≤ 127)
/-- its text -/
def pbT (k e b : Nat) : ByteArray := wordAt k ++ ⟨#[32]⟩ ++ decT e ++ ⟨#[32]⟩ ++ decT b
/-- a struct of three integers -/
def cpV (a b c : Int) : Value := .agg #[.int .i64 a, .int .i64 b, .int .i64 c]
section
variable {H : Type} {enc : TypeId × Value → H} {P : Program} {w : World} {base : Nat}
theorem open_cp {t : Nat} {f0 f1 f2 : Field} {v : Value} {d : DataW H} {p : List MemPlace} (ht : P.underlying t = some (.struct #[f0, f1, f2])) (hone : Deep.oneCellFields P #[f0, f1, f2] = true) (hk : P.cellsOf t = 3)
    (h0 : P.underlying f0.type = some (.int .i64)) (h1 : P.underlying f1.type = some (.int .i64)) (h2 : P.underlying f2.type = some (.int .i64))
    (hv : Value.okWide P w .any base t v) (h : DataW.Trod enc P w 0 (fun _ => true) true t v d p) :
    ∃ (a b c : Int), v = cpV a b c := by
  obtain ⟨cs, rfl, hsz⟩ := okWide_struct ht hv
  obtain ⟨fuel, hf⟩ := h
  obtain ⟨xs, n', hfu, hd, hlen, hxl, hfd⟩ := DataW.trod_struct ht hf
  have key : ∀ (j : Nat) (fd : Field), (#[f0, f1, f2] : Array Field)[j]? = some fd → ∃ x, DataW.trod enc P w 0 (fun _ => true) true n' fd.type (((Value.agg cs).cells.toList.drop j).take 1) = some x := by
    intro j fd hj
    obtain ⟨ho, hc1⟩ := Deep.hone_of hone j fd hj
    have := hfd j fd hj
    rw [ho, hc1] at this
    have hjl : j < xs.length := by
      have := (Array.getElem?_eq_some_iff.1 hj).1
      simp at this hxl
      omega
    rw [List.getElem?_eq_getElem hjl] at this
    exact ⟨_, this⟩
  have hl : cs.toList.length = 3 := by rw [Array.length_toList, hsz, hk]
  obtain ⟨a, b, c, hcs⟩ : ∃ a b c, cs.toList = [a, b, c] := by
    match h : cs.toList, hl with
    | [a, b, c], _ => exact ⟨a, b, c, rfl⟩
  have hcc : (Value.agg cs).cells.toList = [a, b, c] := hcs
  rw [hcc] at key
  obtain ⟨x0, hx0⟩ := key 0 f0 rfl
  obtain ⟨x1, hx1⟩ := key 1 f1 rfl
  obtain ⟨x2, hx2⟩ := key 2 f2 rfl
  obtain ⟨m0, hm0, _⟩ := DataW.trod_int h0 hx0
  obtain ⟨m1, hm1, _⟩ := DataW.trod_int h1 hx1
  obtain ⟨m2, hm2, _⟩ := DataW.trod_int h2 hx2
  simp at hm0 hm1 hm2
  subst hm0 hm1 hm2
  refine ⟨m0, m1, m2, ?_⟩
  unfold cpV
  congr 1
  apply Array.ext'
  exact hcs
/-- an array of texts, as a condition lists it -/
def txtData (zs : List (List UInt8)) : DataW H := .agg (zs.map fun z => .lit (.string z))
/-- An array of texts that reads as listed holds those texts, cell for cell. -/
theorem cells_of_txt {sp : Nat → Bool} {held : Bool} {fuel : Nat} {t e : TypeId} {n : Nat} {cs : List Value} {zs : List (List UInt8)} {p : List MemPlace}
    (ht : P.underlying t = some (.array n e)) (he : P.underlying e = some .string) (hce : P.cellsOf e = 1) (hct : P.cellsOf t = n)
    (h : DataW.trod enc P w base sp held fuel t cs = some (txtData zs, p)) : cs = zs.map fun z => Value.string ⟨z.toArray⟩ := by
  cases fuel with
  | zero => simp [DataW.trod] at h
  | succ fuel =>
    simp only [DataW.trod, ht, hce, hct, Nat.mul_one] at h
    split at h
    · rename_i hl
      obtain ⟨xs, hm, hx⟩ := Option.map_eq_some_iff.1 h
      have hxs : xs.map (·.1) = zs.map fun z => (DataW.lit (.string z) : DataW H) := by
        have := congrArg Prod.fst hx
        simpa [txtData] using this
      have hxl : xs.length = n := by simpa using Lib.mapM_length hm
      have hzl : zs.length = n := by
        have := congrArg List.length hxs
        simp at this
        omega
      apply List.ext_getElem?
      intro i
      by_cases hi : i < n
      · obtain ⟨b, hb, hf⟩ := Lib.mapM_at hm i i (by simp [hi])
        obtain ⟨z, hc, hz0, _⟩ := DataW.trod_string he hf
        have h1 : cs[i]? = some (.string z) := by
          have := congrArg (·[0]?) hc
          simpa [List.getElem?_take, List.getElem?_drop] using this
        have h2 : (xs.map (·.1))[i]? = some (DataW.lit (.string z.data.toList) : DataW H) := by simp [hb, hz0]
        rw [hxs] at h2
        simp only [List.getElem?_map, Option.map_eq_some_iff, DataW.lit.injEq, Lit.string.injEq] at h2
        obtain ⟨z', hz', rfl⟩ := h2
        simp [h1, hz']
      · rw [List.getElem?_eq_none (by omega), List.getElem?_eq_none (by simp; omega)]
    · cases h
/-- the texts of a listed variable -/
theorem txt_of_laid {W : World} {name : String} {zs : List (List UInt8)} {rest : List (String × DataW Unit)} {g : Nat} {t e : TypeId} {n : Nat}
    (hg : P.globalNamed name = some g) (hty : (P.globals[g]?).map (·.type) = some t) (ht : P.underlying t = some (.array n e)) (he : P.underlying e = some .string) (hce : P.cellsOf e = 1) (hct : P.cellsOf t = n)
    (h : laidMet P ((name, txtData zs) :: rest) W) : W.var? P name = some (zs.map fun z => Value.string ⟨z.toArray⟩).toArray := by
  obtain ⟨ps, ⟨g', t', cs, fuel, p, q, hg', ht', hvar, hd, _, _⟩, _⟩ := h
  obtain rfl := Option.some.inj (hg.symm.trans hg')
  obtain rfl := Option.some.inj (hty.symm.trans ht')
  rw [hvar, ← cells_of_txt ht he hce hct hd]
end
end Go.Proofs.YtabmdbhbbmnkdaaDoor
