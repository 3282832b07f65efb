/-
  Disks of chains: the directory mended, MendEntries, both sides: neither side.
-/
import Derived.Test.YtgmmigbaaigldaaGreatDoorMeTopS
import Derived.Test.YtgmmigbaaigldaaGreatDoorChainTop
namespace Go.Proofs.YtgmmigbaaigldaaGreatDoor
open Go Go.ChangeShapes Go.WideShapes Go.ChangeAt Go.RowKit lib
set_option linter.unusedVariables false
set_option maxRecDepth 100000
/-- a disk whose directory is mended: bytes, how many cleared, how many renamed -/
noncomputable def meU (n : Nat) (s : Nat → ByteArray) : Nat → UInt8 := (renGo n (s 0).size (entsN n) (clrGo n (s 0).size (joinU (s 0).size s) (entsN n)).1 (entsN n)).1
noncomputable def meC (n : Nat) (s : Nat → ByteArray) : Nat := (clrGo n (s 0).size (joinU (s 0).size s) (entsN n)).2
noncomputable def meR (n : Nat) (s : Nat → ByteArray) : Nat := (renGo n (s 0).size (entsN n) (clrGo n (s 0).size (joinU (s 0).size s) (entsN n)).1 (entsN n)).2
theorem implMendEntries_ok {w : World} {n c : Nat} {A : Option Addr} {s : Nat → ByteArray} (hs : Sl w w.heap.size A n (fun i => .string (s i))) (hsz : ∀ i, i < n → (s i).size ≤ 9223372036854775807) (hn : n ≤ c) (hn2 : n ≤ 9223372036854775807) (ho : opens n s) :
    Calls Tryz.prog 14 #[.slice A n c] w fun r w' => ∃ A c, r = .returned (.tuple #[.slice A n c, .int .i64 (meC n s : Int), .int .i64 (meR n s : Int), .int .i64 0]) ∧ w'.ownsRow w.heap.size 9 1 (.slice A n c) n ((List.range n).map fun (i : Nat) => Value.string (blkOf (s 0).size (meU n s) i)) ∧ Below w.heap.size w w' := by
  have HO := Lib.hid (implOpen hs hsz hn hn2)
  obtain ⟨f1, f2, f3, f4, f5, f6⟩ := walk_fit ho.1
  have hf := shape_facts ho.1
  unfold meC meR meU
  obtain ⟨z, hz⟩ : ∃ z, (s 0).size = z := ⟨_, rfl⟩
  rw [hz] at f2 f3 f5 f6 hf ⊢
  have HZ := Lib.hid hz
  have HL := Lib.hid ho
  have F6 := Lib.hid f6
  clear ho hs hsz hz f6
  go_enter Tryz.func14, Tryz.ntmps14
  go_wp2_with (first
    | (go_at_call 32; refine HO.out.mono ?_; rintro r w1 ⟨h1, _⟩; obtain ⟨p, rfl, ow⟩ := h1 HL.out; rw [HZ.out] at ow; obtain ⟨g, cc, hc, hcap, hb1, hp, hg⟩ := ow)
    | (go_at_call 33; refine (implMendE_any hc f3 hcap f4 rfl F6.out).mono ?_; rintro r w2 ⟨rfl, hc2, hg2⟩)
    | (go_at_call 28; refine (implDisk_any hc2 rfl hf.2.1 hf.2.2.2.2.2 (by omega) hcap).mono ?_; rintro r w3 ⟨A2, c2, rfl, ho2, hb3⟩))
  have hB := hb1.grown hg2 hb1.size (fun j hj => by injection hj; omega)
  refine bodyPost_ret (v := .tuple #[.slice A2 n c2, .int .i64 ((clrGo n z (joinU z s) (entsN n)).2 : Int), .int .i64 ((renGo n z (entsN n) (clrGo n z (joinU z s) (entsN n)).1 (entsN n)).2 : Int), .int .i64 0]) (by simp [results, Tryz.results14, go_sem]) rfl ?_
  exact ⟨A2, c2, rfl, own_base ho2 hB.size, hB.trans (hb3.mono hB.size)⟩
theorem implMendEntries_bad {w : World} {n c : Nat} {A : Option Addr} {s : Nat → ByteArray} (hs : Sl w w.heap.size A n (fun i => .string (s i))) (hsz : ∀ i, i < n → (s i).size ≤ 9223372036854775807) (hn : n ≤ c) (hn2 : n ≤ 9223372036854775807) (ho : ¬ opens n s) :
    Calls Tryz.prog 14 #[.slice A n c] w fun r w' => r = .returned (.tuple #[.slice none 0 0, .int .i64 0, .int .i64 0, .int .i64 (openCode n s)]) ∧ Below w.heap.size w w' := by
  have HO := Lib.hid (implOpen hs hsz hn hn2)
  have hne := openCode_ne n s
  have HL := Lib.hid ho
  obtain ⟨code, hcode⟩ : ∃ code, openCode n s = code := ⟨_, rfl⟩
  rw [hcode] at hne ⊢
  have HCD := Lib.hid hcode
  clear ho hs hsz hcode
  rcases hne with rfl | rfl
  all_goals
    go_enter Tryz.func14, Tryz.ntmps14
    go_wp2_with (go_at_call 32; refine HO.out.mono ?_; rintro r w1 ⟨_, h1⟩; have h2 := h1 HL.out; rw [HCD.out] at h2; obtain ⟨rfl, hb1⟩ := h2)
    first
    | exact bodyPost_ret (v := .tuple #[.slice none 0 0, .int .i64 0, .int .i64 0, .int .i64 1]) (by simp [results, Tryz.results14, go_sem]) rfl ⟨rfl, hb1⟩
    | exact bodyPost_ret (v := .tuple #[.slice none 0 0, .int .i64 0, .int .i64 0, .int .i64 7]) (by simp [results, Tryz.results14, go_sem]) rfl ⟨rfl, hb1⟩
theorem specMendEntries_ok {w : World} {n c : Nat} {A : Option Addr} {s : Nat → ByteArray} (hs : Sl w w.heap.size A n (fun i => .string (s i))) (hsz : ∀ i, i < n → (s i).size ≤ 9223372036854775807) (hn : n ≤ c) (hn2 : n ≤ 9223372036854775807) (ho : opens n s) :
    Calls Tryz.prog 13 #[.slice A n c] w fun r w' => ∃ A c, r = .returned (.tuple #[.slice A n c, .int .i64 (meC n s : Int), .int .i64 (meR n s : Int), .int .i64 0]) ∧ w'.ownsRow w.heap.size 9 1 (.slice A n c) n ((List.range n).map fun (i : Nat) => Value.string (blkOf (s 0).size (meU n s) i)) ∧ Below w.heap.size w w' := by
  have HO := Lib.hid (specOpen hs hsz hn hn2)
  obtain ⟨f1, f2, f3, f4, f5, f6⟩ := walk_fit ho.1
  have hf := shape_facts ho.1
  unfold meC meR meU
  obtain ⟨z, hz⟩ : ∃ z, (s 0).size = z := ⟨_, rfl⟩
  rw [hz] at f2 f3 f5 f6 hf ⊢
  have HZ := Lib.hid hz
  have HL := Lib.hid ho
  have F6 := Lib.hid f6
  clear ho hs hsz hz f6
  go_enter Tryz.func13, Tryz.ntmps13
  go_wp2_with (first
    | (go_at_call 30; refine HO.out.mono ?_; rintro r w1 ⟨h1, _⟩; obtain ⟨p, rfl, ow⟩ := h1 HL.out; rw [HZ.out] at ow; obtain ⟨g, cc, hc, hcap, hb1, hp, hg⟩ := ow)
    | (go_at_call 31; refine (specMendE_any hc f3 hcap f4 rfl F6.out).mono ?_; rintro r w2 ⟨rfl, hc2, hg2⟩)
    | (go_at_call 22; refine (specDisk_any hc2 rfl hf.2.1 hf.2.2.2.2.2 (by omega) hcap).mono ?_; rintro r w3 ⟨A2, c2, rfl, ho2, hb3⟩))
  have hB := hb1.grown hg2 hb1.size (fun j hj => by injection hj; omega)
  refine bodyPost_ret (v := .tuple #[.slice A2 n c2, .int .i64 ((clrGo n z (joinU z s) (entsN n)).2 : Int), .int .i64 ((renGo n z (entsN n) (clrGo n z (joinU z s) (entsN n)).1 (entsN n)).2 : Int), .int .i64 0]) (by simp [results, Tryz.results13, go_sem]) rfl ?_
  exact ⟨A2, c2, rfl, own_base ho2 hB.size, hB.trans (hb3.mono hB.size)⟩
theorem specMendEntries_bad {w : World} {n c : Nat} {A : Option Addr} {s : Nat → ByteArray} (hs : Sl w w.heap.size A n (fun i => .string (s i))) (hsz : ∀ i, i < n → (s i).size ≤ 9223372036854775807) (hn : n ≤ c) (hn2 : n ≤ 9223372036854775807) (ho : ¬ opens n s) :
    Calls Tryz.prog 13 #[.slice A n c] w fun r w' => r = .returned (.tuple #[.slice none 0 0, .int .i64 0, .int .i64 0, .int .i64 (openCode n s)]) ∧ Below w.heap.size w w' := by
  have HO := Lib.hid (specOpen hs hsz hn hn2)
  have hne := openCode_ne n s
  have HL := Lib.hid ho
  obtain ⟨code, hcode⟩ : ∃ code, openCode n s = code := ⟨_, rfl⟩
  rw [hcode] at hne ⊢
  have HCD := Lib.hid hcode
  clear ho hs hsz hcode
  rcases hne with rfl | rfl
  all_goals
    go_enter Tryz.func13, Tryz.ntmps13
    go_wp2_with (go_at_call 30; refine HO.out.mono ?_; rintro r w1 ⟨_, h1⟩; have h2 := h1 HL.out; rw [HCD.out] at h2; obtain ⟨rfl, hb1⟩ := h2)
    first
    | exact bodyPost_ret (v := .tuple #[.slice none 0 0, .int .i64 0, .int .i64 0, .int .i64 1]) (by simp [results, Tryz.results13, go_sem]) rfl ⟨rfl, hb1⟩
    | exact bodyPost_ret (v := .tuple #[.slice none 0 0, .int .i64 0, .int .i64 0, .int .i64 7]) (by simp [results, Tryz.results13, go_sem]) rfl ⟨rfl, hb1⟩
end Go.Proofs.YtgmmigbaaigldaaGreatDoor
