/-
  GoneExtents: the program's side.
-/
import Derived.Test.YtmgcaiilocifbaaDoorXgoP
import Derived.Test.YtmgcaiilocifbaaDoorXuG
import Derived.Test.YtmgcaiilocifbaaDoorXrT
import Derived.Test.YtmgcaiilocifbaaDoorShelfB
import Derived.Deep.DeepCutAuto
import Derived.Deep.CutBlock
namespace Go.Proofs.YtmgcaiilocifbaaDoor
open Go Go.ChangeShapes Go.WideShapes Go.ChangeAt Go.RowKit lib
set_option linter.unusedVariables false
set_option linter.unusedSimpArgs false
set_option maxRecDepth 100000
/-- the deleted entries of a disk -/
noncomputable def goneOf17 (n : Nat) (s : Nat → ByteArray) : List Nat := picks (isGone (s 0).size (joinU (s 0).size s)) (entsX n)
/-- their names, increasing -/
noncomputable def goneNms (n : Nat) (s : Nat → ByteArray) : List ByteArray := nmsX (s 0).size (joinU (s 0).size s) (goneOf17 n s)
theorem goneNms_len {n : Nat} {s : Nat → ByteArray} : (goneNms n s).length ≤ n := Nat.le_trans (nmsX_len _ _ _) (Nat.le_trans (picks_len _ _) (by unfold entsX; omega))
/-- a name that has come out -/
def outNm (z : Nat) (U : Nat → UInt8) (E : Nat) (left : Lit → Bool) (x : ByteArray) : Prop := ∃ k, k < E ∧ isGone z U k ∧ left (.int .i64 (k : Int)) = false ∧ (xen z U k).nm = x
set_option maxHeartbeats 4000000 in
theorem implGoneX_ok {w : World} {n c : Nat} {A : Option Addr} {s : Nat → ByteArray} (hs : Sl w w.heap.size A n (fun i => .string (s i))) (hsz : ∀ i, i < n → (s i).size ≤ 9223372036854775807) (hn : n ≤ c) (hn2 : n ≤ 9223372036854775807) (ho : opensX n s) :
    Calls Tryd.prog 28 #[.slice A n c] w fun r w' => ∃ A2 c2, r = .returned (.tuple #[.slice A2 (goneNms n s).length c2, .int .i64 0]) ∧ StrR w.heap.size w' A2 c2 (goneNms n s) ∧ Below w.heap.size w w' := by
  have HO := Lib.hid (implOpenX hs hsz hn hn2)
  obtain ⟨f1, f2, f3, f4, f5, f6, f7, f8, f9⟩ := shapeX ho
  unfold goneNms goneOf17
  obtain ⟨z, hz⟩ : ∃ z, (s 0).size = z := ⟨_, rfl⟩
  rw [hz] at f2 f3 f6 f8 ⊢
  obtain ⟨E, hE⟩ : ∃ E, entsX n = E := ⟨_, rfl⟩
  have hEt := dataX n z
  rw [hE] at f7 f8 ⊢
  have HZ := Lib.hid hz
  have HE := Lib.hid hE
  have HOP := Lib.hid ho
  have HGO := Lib.hid (fun (W : World) (p g cc : Nat) (hx : XW W p g n z E (dataX n z) (n * z) cc (joinU z s)) (hcap : n * z ≤ cc) => implGoneX_any hx f7 f8 f6 hcap (by omega))
  have KL := Maps.int_keyed (P := Tryd.prog) (k := 2) Tryd.underlying2
  clear ho hs hsz hz f1 f8 f9 hE hEt
  go_enter Tryd.func28, Tryd.ntmps28
  go_wp2_with (first
    | (go_at_call 31; refine HO.out.mono ?_; rintro r w1 ⟨h1, _⟩; obtain ⟨p, rfl, ow⟩ := h1 HOP.out; rw [HZ.out] at ow; obtain ⟨g, cc, hx, hcap, hb1, hp, hg⟩ := ow; rw [HE.out] at hx)
    | (go_at_call 54; refine (HGO.out _ _ _ _ hx hcap).mono ?_; rintro r w2 ⟨m, rfl, hmf, ⟨a, ca, hm⟩, hb2⟩; obtain ⟨D, hown, hD⟩ := hm.data)
    | (at_range; refine wpList_range_own _ rfl _ 85 rfl 2 56 KL Tryd.underlying85 asV m E D rfl hown ?_; intro w0 hrg0 hg0 hs0))
  go_frame
  have hB2 : Below w.heap.size w w2 := hb1.trans (hb2.mono hb1.size)
  have hB0 : Below w.heap.size w w0 := hB2.grown hg0 hB2.size (fun j hj => by cases hj)
  have hszD := hown.size_le
  have hmlt := hown.lt
  have HD := Lib.hid hD
  have HHAS := Lib.hid (fun (j : Nat) (hj : j < E) (hu : isGone z (joinU z s) j) => has_used hD hj hu (by omega))
  obtain ⟨rr, hrr⟩ : ∃ rr, w2.heap.size = rr := ⟨_, rfl⟩
  rw [hrr] at hrg0 hmlt hs0 ⊢
  have hzw2 : w.heap.size ≤ rr := by rw [← hrr]; exact hB2.size
  clear hD hm hown hb1 hb2 hB2 hx hrr hg0
  go_loopw [6, 8] (fun s6 s8 wr => ∃ (left : Lit → Bool) (cnt c1 : Nat) (A1 : Option Addr) (L : List ByteArray), s6 = .slice A1 L.length c1 ∧ wr.ranges Tryd.prog 2 asV m rr E D left cnt ∧ StrR (rr + 1) wr A1 c1 L ∧ (∀ x, x ∈ L ↔ outNm z (joinU z s) E left x) ∧ L.length + cnt ≤ E ∧ Below w.heap.size w wr) (fun _ _ wr => wr.rangeLeft m rr)
  case atStart =>
    refine ⟨_, _, 0, none, [], rfl, hrg0, strR_nil _ _, fun x => ⟨fun h => (by cases h), ?_⟩, by simpa using hszD, hB0⟩
    rintro ⟨k, hk, hu, hl, _⟩
    rw [HHAS.out k hk hu] at hl
    cases hl
  case round =>
    obtain ⟨left, cnt, c1, A1, L, rfl, hrg, hsr, hmem, hcn, hb⟩ := hrel
    go_wp2_with (at_next; refine wpList_next_ranges _ rfl _ rfl 2 KL asV (Value.int .i64) (fun v : Value => v) (fun key kl hk => by obtain ⟨x, hx, _⟩ := Maps.keyOf_int_inv Tryd.underlying2 hk; exact ⟨x, hx⟩) (fun v y hv => ⟨v, rfl⟩) m rr E D left cnt rfl hrg ?_ ?_)
    · intro hc0 hl0
      have hmm : ∀ x, x ∈ L ↔ ∃ k, k ∈ picks (isGone z (joinU z s)) E ∧ (xen z (joinU z s) k).nm = x := fun x => by
        rw [hmem]
        constructor
        · rintro ⟨k, h1, h2, _, h4⟩
          exact ⟨k, mem_picks.2 ⟨h1, h2⟩, h4⟩
        · rintro ⟨k, h1, h4⟩
          exact ⟨k, (mem_picks.1 h1).1, (mem_picks.1 h1).2, hl0 _, h4⟩
      have HSA := Lib.hid (names_same z (joinU z s) _ L hmm)
      have hbase : StrR w.heap.size wr A1 c1 L := own_base hsr (by omega)
      have hk := hbase.key
      have hlk : (L.map kB).length = L.length := List.length_map _
      have HS1 := Lib.hid (sortStr_any (w0 := w) hk hb (by rw [hlk]; omega))
      rw [hlk] at HS1
      clear hmm hmem hrg hsr hbase hk hl0
      go_wp2_with (first
        | (go_at_call 55; refine HS1.out.mono ?_; rintro e5 w5 ⟨rfl, hk5, hb5⟩; have hl5 := List.length_mergeSort (le := fun x y : List UInt8 => decide (x ≤ y)) (L.map kB); have HC1 := Lib.hid (compactStr_any (w0 := w) hk5 hb5 (by rw [hl5, hlk]; omega)); rw [hl5, hlk, HSA.out] at HC1)
        | (go_at_call 56; refine HC1.out.mono ?_; rintro e6 w6 ⟨rfl, hk6, hb6⟩))
      go_ret2
      exact ⟨A1, c1, rfl, hk6.text, hb6⟩
    · intro x cv kl y1 y2 w5 cnt1 hkey hlx hR hat hrg1 hlt hg1 hs1 hen
      obtain ⟨j, hjE, hu, rfl, rfl, rfl⟩ := entry_is (y := (y1, y2)) HD.out Tryd.underlying2 hkey hR hat
      obtain ⟨e, he⟩ : ∃ e, e = xen z (joinU z s) j := ⟨_, rfl⟩
      rw [← he] at hen
      unfold XE.val at hen
      have hrlt : rr < wr.heap.size := hrg.lt
      have hb2 := hb.grown hg1 hb.size (fun j hj => by injection hj with hj; omega)
      have hsr2 : StrR (rr + 1) w5 A1 c1 L := hsr.kept hg1 (by
        cases hv : (Value.slice A1 L.length c1).ownBlock with
        | none => exact .inl rfl
        | some o => exact .inr fun e => by have := own_lt hsr o hv; injection e with e; omega)
      have HE2 := Lib.hid he
      have HU := Lib.hid hu
      have HLT := Lib.hid hlt
      have HRG := Lib.hid hrg
      have HME := Lib.hid hmem
      generalize a j = ka at *
      generalize ca j = kc at *
      clear he hkey hR hat hlt hlx hu hrg hmem
      have hal := (Below.refl w5.heap.size w5).alloc (Nat.le_refl _) (.cells #[.int .i64 e.st, .string e.nm, .int .i64 e.no, .int .i64 e.tl, .slice ka e.bl.length kc] 56)
      have hsr3 := hsr2.below hal
      have hrg3 := hrg1.alloc (.cells #[.int .i64 e.st, .string e.nm, .int .i64 e.no, .int .i64 e.tl, .slice ka e.bl.length kc] 56)
      have hb3 := hb2.trans (hal.mono hb2.size)
      have hr3 := Rw.new w5 56 #[.int .i64 e.st, .string e.nm, .int .i64 e.no, .int .i64 e.tl, .slice ka e.bl.length kc]
      rw [hs1] at hr3
      go_upto_region 8 with fail
      generalize w5.alloc (.cells #[.int .i64 e.st, .string e.nm, .int .i64 e.no, .int .i64 e.tl, .slice ka e.bl.length kc] 56) = W3 at *
      have y1' := hr3.cell 1
      have hz3 : rr + 1 ≤ W3.heap.size := by have := hr3.lt; omega
      unfold StrR at hsr3
      have HSR := Lib.hid hsr3
      have HRG3 := Lib.hid hrg3
      have HB3 := Lib.hid hb3
      clear hsr3 hrg3 hb3 hal hsr2 hsr hrg1 hb2 hb hen hg1 hs1
      go_wp2_with (at_builtin; refine wpList_pushN (.tmp 23) (.tmp 26) 22 (rr + 1) 9 (.string .empty) [.string e.nm] 1 16 _ L.length _ HSR.out rfl rfl Tryd.underlying22 infoSt rfl (by omega) rfl rfl rfl rfl (by intro u hu; simp at hu; subst hu; rfl) (by omega) (by omega) hz3 ?_; intro A4 c4 w4 ho4 hg4)
      go_roundw
      case rel =>
        have hmlt2 : m < rr := hmlt
        refine ⟨_, cnt1, c4, some A4, L ++ [e.nm], by rw [List.length_append]; rfl, HRG3.out.kept hg4 ?_ ?_, ?_, fun x => ?_, by rw [List.length_append]; simp; have := HLT.out; omega, HB3.out.grown hg4 (by omega) (fun o ho => by have := own_lt HSR.out o ho; omega)⟩
        · cases hv : (Value.slice A1 L.length c1).ownBlock with
          | none => simp
          | some o => exact fun e => by have := own_lt HSR.out o hv; injection e with e; omega
        · cases hv : (Value.slice A1 L.length c1).ownBlock with
          | none => simp
          | some o => exact fun e => by have := own_lt HSR.out o hv; injection e with e; omega
        · unfold StrR
          rw [List.map_append, List.length_append]
          exact ho4
        · rw [List.mem_append, HME.out, List.mem_singleton]
          constructor
          · rintro (⟨k, h1, h2, h3, h4⟩ | rfl)
            · exact ⟨k, h1, h2, (left_step (by omega)).2 (.inl h3), h4⟩
            · exact ⟨j, hjE, HU.out, (left_step (by omega)).2 (.inr rfl), by rw [HE2.out]⟩
          · rintro ⟨k, h1, h2, h3, h4⟩
            rcases (left_step (by omega)).1 h3 with h5 | rfl
            · exact .inl ⟨k, h1, h2, h5, h4⟩
            · exact .inr (by rw [← h4, HE2.out])
      case measure => rw [(HRG3.out.kept hg4 (by
          cases hv : (Value.slice A1 L.length c1).ownBlock with
          | none => simp
          | some o => exact fun e => by have := own_lt HSR.out o hv; injection e with e; omega) (by
          cases hv : (Value.slice A1 L.length c1).ownBlock with
          | none => simp
          | some o => exact fun e => by have := own_lt HSR.out o hv; injection e with e; omega)).left_eq, HRG.out.left_eq]; exact HLT.out
theorem implGoneX_bad {w : World} {n c : Nat} {A : Option Addr} {s : Nat → ByteArray} (hs : Sl w w.heap.size A n (fun i => .string (s i))) (hsz : ∀ i, i < n → (s i).size ≤ 9223372036854775807) (hn : n ≤ c) (hn2 : n ≤ 9223372036854775807) (ho : ¬ opensX n s) :
    Calls Tryd.prog 28 #[.slice A n c] w fun r w' => r = .returned (.tuple #[.slice none 0 0, .int .i64 7]) ∧ Below w.heap.size w w' := by
  have HO := Lib.hid (implOpenX hs hsz hn hn2)
  have HOP := Lib.hid ho
  clear ho hs hsz
  go_enter Tryd.func28, Tryd.ntmps28
  go_wp2_with (go_at_call 31; refine HO.out.mono ?_; rintro r w1 ⟨_, h1⟩; obtain ⟨rfl, hb1⟩ := h1 HOP.out)
  go_ret2
  exact ⟨rfl, hb1⟩
end Go.Proofs.YtmgcaiilocifbaaDoor
