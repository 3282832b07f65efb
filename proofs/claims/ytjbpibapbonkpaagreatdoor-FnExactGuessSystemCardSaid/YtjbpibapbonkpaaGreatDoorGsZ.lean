/-
  GuessSystem, both sides.
  GuessSystem, both sides: the tops.
-/
import Derived.Test.YtjbpibapbonkpaaGreatDoorChainTop
import Derived.Test.YtjbpibapbonkpaaGreatDoorXoS
import Derived.Test.YtjbpibapbonkpaaGreatDoorTreCk
namespace Go.Proofs.YtjbpibapbonkpaaGreatDoor
open Go Go.ChangeShapes Go.WideShapes Go.ChangeAt Go.RowKit lib
set_option linter.unusedVariables false
set_option linter.unusedSimpArgs false
set_option maxRecDepth 100000
open Classical in
/-- whether the layouts are read: codes -/
noncomputable def layC (n : Nat) (s : Nat → ByteArray) : Int := if opens n s then 0 else openCode n s
open Classical in
noncomputable def extC (n : Nat) (s : Nat → ByteArray) : Int := if opensX n s then 0 else 7
/-- the kind of system that is guessed, and a code -/
noncomputable def gsT (n : Nat) (s : Nat → ByteArray) : Int × Int := if layC n s = 0 then (1, 0) else if extC n s = 0 then (2, 0) else if (ckL n s).length = 0 then (3, 0) else (0, 3)
theorem layC_yes {n : Nat} {s : Nat → ByteArray} (h : opens n s) : layC n s = 0 := if_pos h
theorem layC_no {n : Nat} {s : Nat → ByteArray} (h : ¬ opens n s) : layC n s = openCode n s := if_neg h
theorem extC_yes {n : Nat} {s : Nat → ByteArray} (h : opensX n s) : extC n s = 0 := if_pos h
theorem extC_no {n : Nat} {s : Nat → ByteArray} (h : ¬ opensX n s) : extC n s = 7 := if_neg h
def LayOut5 (k : Int) (w : World) (e : Ending) (w' : World) : Prop := (∃ a0 a1 a2 a3 a4 : Int, e = .returned (.tuple #[.agg #[.int .i64 a0, .int .i64 a1, .int .i64 a2, .int .i64 a3, .int .i64 a4], .int .i64 k])) ∧ Below w.heap.size w w'
def LayOut4 (k : Int) (w : World) (e : Ending) (w' : World) : Prop := (∃ a0 a1 a2 a3 : Int, e = .returned (.tuple #[.agg #[.int .i64 a0, .int .i64 a1, .int .i64 a2, .int .i64 a3], .int .i64 k])) ∧ Below w.heap.size w w'
theorem rowsetG5 {w : World} {g e : Nat} {a0 a1 a2 a3 a4 : Value} (h : Rw w g e #[a0, a1, a2, a3, a4]) (v0 v1 v2 v3 v4 : Value) (i : Nat) : (((((w.setCell ⟨g, 0, none⟩ v0).setCell ⟨g, 1, none⟩ v1).setCell ⟨g, 2, none⟩ v2).setCell ⟨g, 3, none⟩ v3).setCell ⟨g, 4, none⟩ v4).cell? ⟨g, i, none⟩ = (#[v0, v1, v2, v3, v4] : Array Value)[i]? := by
  have h5 := ((((h.set 0 v0).set 1 v1).set 2 v2).set 3 v3).set 4 v4
  exact h5.cell i
theorem rowsetG4 {w : World} {g e : Nat} {a0 a1 a2 a3 : Value} (h : Rw w g e #[a0, a1, a2, a3]) (v0 v1 v2 v3 : Value) (i : Nat) : ((((w.setCell ⟨g, 0, none⟩ v0).setCell ⟨g, 1, none⟩ v1).setCell ⟨g, 2, none⟩ v2).setCell ⟨g, 3, none⟩ v3).cell? ⟨g, i, none⟩ = (#[v0, v1, v2, v3] : Array Value)[i]? := by
  have h5 := (((h.set 0 v0).set 1 v1).set 2 v2).set 3 v3
  exact h5.cell i
set_option maxHeartbeats 4000000 in
theorem implLayoutOf_any {w : World} {n c : Nat} {A : Option Addr} {s : Nat → ByteArray} (hs : Sl w w.heap.size A n (fun i => .string (s i))) (hsz : ∀ i, i < n → (s i).size ≤ 9223372036854775807) (hn : n ≤ c) (hn2 : n ≤ 9223372036854775807) :
    Calls Tryz.prog 12 #[.slice A n c] w (LayOut5 (layC n s) w) := by
  have hb0 := (Below.refl w.heap.size w).alloc (Nat.le_refl _) (.cells #[.int .i64 0, .int .i64 0, .int .i64 0, .int .i64 0, .int .i64 0] 30)
  have hr0 := Rw.new w 30 #[.int .i64 0, .int .i64 0, .int .i64 0, .int .i64 0, .int .i64 0]
  have ho := implOpen ((hs.below hb0).more hb0.size) hsz hn hn2
  have HB0 := Lib.hid hb0
  have HR0 := Lib.hid hr0
  by_cases h : opens n s
  · rw [layC_yes h]
    have HO := Lib.hid (ho.mono (R' := fun r w' => ∃ p g z E d t N c u, r = .returned (.tuple #[.pointer (some ⟨p, 0, none⟩), .int .i64 0]) ∧ ChW w' p g n z E d t N c u ∧ Below (w.alloc (.cells #[.int .i64 0, .int .i64 0, .int .i64 0, .int .i64 0, .int .i64 0] 30)).heap.size (w.alloc (.cells #[.int .i64 0, .int .i64 0, .int .i64 0, .int .i64 0, .int .i64 0] 30)) w') (fun r w' q => by
      obtain ⟨p, h1, g, c, h2, _, h3, _⟩ := q.1 h
      exact ⟨_, _, _, _, _, _, _, _, _, h1, h2, h3⟩))
    clear ho hs hsz h hb0 hr0
    go_enter Tryz.func12, Tryz.ntmps12
    go_upto_region 1 with fail
    obtain ⟨bx, hbx⟩ : ∃ b, w.heap.size = b := ⟨_, rfl⟩
    rw [hbx] at HR0
    rw [hbx]
    have HBX := Lib.hid hbx
    clear hbx
    generalize w.alloc (.cells #[.int .i64 0, .int .i64 0, .int .i64 0, .int .i64 0, .int .i64 0] 30) = W0 at *
    go_upto_region 2 with (go_at_call 19; refine HO.out.mono ?_; rintro e w2 ⟨p, g, z, E, d, t, N, c3, u, rfl, hc, hb2⟩; have hr2 := HR0.out.below hb2 HR0.out.lt; have k0 := hc.c0; have k1 := hc.c1; have k2 := hc.c2; have k3 := hc.c3; have k4 := hc.c4; have f0 := hr2.frozen 0; have f1 := hr2.frozen 1; have f2 := hr2.frozen 2; have f3 := hr2.frozen 3; have f4 := hr2.frozen 4; have b0 := hr2.cell 0; have b1 := hr2.cell 1; have b2 := hr2.cell 2; have b3 := hr2.cell 3; have b4 := hr2.cell 4; have HR2 := Lib.hid hr2; have HB2 := Lib.hid (show Below bx w w2 by have := HB0.out; rw [HBX.out] at this; exact this.trans (hb2.mono (by have := HR0.out.lt; omega))); clear hr2 hb2)
    go_wp2_with fail
    have hle : w.heap.size ≤ bx := Nat.le_of_eq HBX.out
    have hbw : Below w.heap.size w w2 := by rw [HBX.out]; exact HB2.out
    have hrs0 := rowsetG5 HR2.out (.int .i64 (n : Int)) (.int .i64 (z : Int)) (.int .i64 (E : Int)) (.int .i64 (d : Int)) (.int .i64 (t : Int)) 0
    have hrs := fun i => rowsetG5 HR2.out (.int .i64 (n : Int)) (.int .i64 (z : Int)) (.int .i64 (E : Int)) (.int .i64 (d : Int)) (.int .i64 (t : Int)) i
    exact bodyPost_ret (v := .tuple #[.agg #[.int .i64 (n : Int), .int .i64 (z : Int), .int .i64 (E : Int), .int .i64 (d : Int), .int .i64 (t : Int)], .int .i64 0]) (by simp [results, Tryz.results12, go_sem, hrs]) rfl ⟨⟨(n : Int), (z : Int), (E : Int), (d : Int), (t : Int), rfl⟩, (((((hbw.setCell hle _).setCell hle _).setCell hle _).setCell hle _).setCell hle _)⟩
  · rw [layC_no h]
    have HO := Lib.hid (ho.mono (R' := fun r w' => r = .returned (.tuple #[.pointer none, .int .i64 (openCode n s)]) ∧ Below (w.alloc (.cells #[.int .i64 0, .int .i64 0, .int .i64 0, .int .i64 0, .int .i64 0] 30)).heap.size (w.alloc (.cells #[.int .i64 0, .int .i64 0, .int .i64 0, .int .i64 0, .int .i64 0] 30)) w') (fun r w' q => q.2 h))
    have hne := openCode_ne n s
    obtain ⟨k, hk⟩ : ∃ k, openCode n s = k := ⟨_, rfl⟩
    rw [hk] at HO hne ⊢
    have t1 : (k != 0) = true := by simp; omega
    clear hk
    clear ho hs hsz h hb0 hr0
    go_enter Tryz.func12, Tryz.ntmps12
    go_upto_region 1 with fail
    obtain ⟨bx, hbx⟩ : ∃ b, w.heap.size = b := ⟨_, rfl⟩
    rw [hbx] at HR0
    rw [hbx]
    have HBX := Lib.hid hbx
    clear hbx
    generalize w.alloc (.cells #[.int .i64 0, .int .i64 0, .int .i64 0, .int .i64 0, .int .i64 0] 30) = W0 at *
    go_upto_region 2 with (go_at_call 19; refine HO.out.mono ?_; rintro e w2 ⟨rfl, hb2⟩; have hr2 := HR0.out.below hb2 HR0.out.lt; have f0 := hr2.frozen 0; have f1 := hr2.frozen 1; have f2 := hr2.frozen 2; have f3 := hr2.frozen 3; have f4 := hr2.frozen 4; have b0 := hr2.cell 0; have b1 := hr2.cell 1; have b2 := hr2.cell 2; have b3 := hr2.cell 3; have b4 := hr2.cell 4; have HR2 := Lib.hid hr2; have HB2 := Lib.hid (show Below bx w w2 by have := HB0.out; rw [HBX.out] at this; exact this.trans (hb2.mono (by have := HR0.out.lt; omega))); clear hr2 hb2)
    go_wp2_with fail
    have hle : w.heap.size ≤ bx := Nat.le_of_eq HBX.out
    have hbw : Below w.heap.size w w2 := by rw [HBX.out]; exact HB2.out
    have hrs0 := rowsetG5 HR2.out (.int .i64 0) (.int .i64 0) (.int .i64 0) (.int .i64 0) (.int .i64 0) 0
    have hrs := fun i => rowsetG5 HR2.out (.int .i64 0) (.int .i64 0) (.int .i64 0) (.int .i64 0) (.int .i64 0) i
    exact bodyPost_ret (v := .tuple #[.agg #[.int .i64 0, .int .i64 0, .int .i64 0, .int .i64 0, .int .i64 0], .int .i64 k]) (by simp [results, Tryz.results12, go_sem, hrs]) rfl ⟨⟨0, 0, 0, 0, 0, rfl⟩, (((((hbw.setCell hle _).setCell hle _).setCell hle _).setCell hle _).setCell hle _)⟩
set_option maxHeartbeats 4000000 in
theorem specLayoutOf_any {w : World} {n c : Nat} {A : Option Addr} {s : Nat → ByteArray} (hs : Sl w w.heap.size A n (fun i => .string (s i))) (hsz : ∀ i, i < n → (s i).size ≤ 9223372036854775807) (hn : n ≤ c) (hn2 : n ≤ 9223372036854775807) :
    Calls Tryz.prog 9 #[.slice A n c] w (LayOut5 (layC n s) w) := by
  have hb0 := (Below.refl w.heap.size w).alloc (Nat.le_refl _) (.cells #[.int .i64 0, .int .i64 0, .int .i64 0, .int .i64 0, .int .i64 0] 30)
  have hr0 := Rw.new w 30 #[.int .i64 0, .int .i64 0, .int .i64 0, .int .i64 0, .int .i64 0]
  have ho := specOpen ((hs.below hb0).more hb0.size) hsz hn hn2
  have HB0 := Lib.hid hb0
  have HR0 := Lib.hid hr0
  by_cases h : opens n s
  · rw [layC_yes h]
    have HO := Lib.hid (ho.mono (R' := fun r w' => ∃ p g z E d t N c u, r = .returned (.tuple #[.pointer (some ⟨p, 0, none⟩), .int .i64 0]) ∧ ChW w' p g n z E d t N c u ∧ Below (w.alloc (.cells #[.int .i64 0, .int .i64 0, .int .i64 0, .int .i64 0, .int .i64 0] 30)).heap.size (w.alloc (.cells #[.int .i64 0, .int .i64 0, .int .i64 0, .int .i64 0, .int .i64 0] 30)) w') (fun r w' q => by
      obtain ⟨p, h1, g, c, h2, _, h3, _⟩ := q.1 h
      exact ⟨_, _, _, _, _, _, _, _, _, h1, h2, h3⟩))
    clear ho hs hsz h hb0 hr0
    go_enter Tryz.func9, Tryz.ntmps9
    go_upto_region 1 with fail
    obtain ⟨bx, hbx⟩ : ∃ b, w.heap.size = b := ⟨_, rfl⟩
    rw [hbx] at HR0
    rw [hbx]
    have HBX := Lib.hid hbx
    clear hbx
    generalize w.alloc (.cells #[.int .i64 0, .int .i64 0, .int .i64 0, .int .i64 0, .int .i64 0] 30) = W0 at *
    go_upto_region 2 with (go_at_call 15; refine HO.out.mono ?_; rintro e w2 ⟨p, g, z, E, d, t, N, c3, u, rfl, hc, hb2⟩; have hr2 := HR0.out.below hb2 HR0.out.lt; have k0 := hc.c0; have k1 := hc.c1; have k2 := hc.c2; have k3 := hc.c3; have k4 := hc.c4; have f0 := hr2.frozen 0; have f1 := hr2.frozen 1; have f2 := hr2.frozen 2; have f3 := hr2.frozen 3; have f4 := hr2.frozen 4; have b0 := hr2.cell 0; have b1 := hr2.cell 1; have b2 := hr2.cell 2; have b3 := hr2.cell 3; have b4 := hr2.cell 4; have HR2 := Lib.hid hr2; have HB2 := Lib.hid (show Below bx w w2 by have := HB0.out; rw [HBX.out] at this; exact this.trans (hb2.mono (by have := HR0.out.lt; omega))); clear hr2 hb2)
    go_wp2_with fail
    have hle : w.heap.size ≤ bx := Nat.le_of_eq HBX.out
    have hbw : Below w.heap.size w w2 := by rw [HBX.out]; exact HB2.out
    have hrs0 := rowsetG5 HR2.out (.int .i64 (n : Int)) (.int .i64 (z : Int)) (.int .i64 (E : Int)) (.int .i64 (d : Int)) (.int .i64 (t : Int)) 0
    have hrs := fun i => rowsetG5 HR2.out (.int .i64 (n : Int)) (.int .i64 (z : Int)) (.int .i64 (E : Int)) (.int .i64 (d : Int)) (.int .i64 (t : Int)) i
    exact bodyPost_ret (v := .tuple #[.agg #[.int .i64 (n : Int), .int .i64 (z : Int), .int .i64 (E : Int), .int .i64 (d : Int), .int .i64 (t : Int)], .int .i64 0]) (by simp [results, Tryz.results9, go_sem, hrs]) rfl ⟨⟨(n : Int), (z : Int), (E : Int), (d : Int), (t : Int), rfl⟩, (((((hbw.setCell hle _).setCell hle _).setCell hle _).setCell hle _).setCell hle _)⟩
  · rw [layC_no h]
    have HO := Lib.hid (ho.mono (R' := fun r w' => r = .returned (.tuple #[.pointer none, .int .i64 (openCode n s)]) ∧ Below (w.alloc (.cells #[.int .i64 0, .int .i64 0, .int .i64 0, .int .i64 0, .int .i64 0] 30)).heap.size (w.alloc (.cells #[.int .i64 0, .int .i64 0, .int .i64 0, .int .i64 0, .int .i64 0] 30)) w') (fun r w' q => q.2 h))
    have hne := openCode_ne n s
    obtain ⟨k, hk⟩ : ∃ k, openCode n s = k := ⟨_, rfl⟩
    rw [hk] at HO hne ⊢
    have t1 : (k != 0) = true := by simp; omega
    clear hk
    clear ho hs hsz h hb0 hr0
    go_enter Tryz.func9, Tryz.ntmps9
    go_upto_region 1 with fail
    obtain ⟨bx, hbx⟩ : ∃ b, w.heap.size = b := ⟨_, rfl⟩
    rw [hbx] at HR0
    rw [hbx]
    have HBX := Lib.hid hbx
    clear hbx
    generalize w.alloc (.cells #[.int .i64 0, .int .i64 0, .int .i64 0, .int .i64 0, .int .i64 0] 30) = W0 at *
    go_upto_region 2 with (go_at_call 15; refine HO.out.mono ?_; rintro e w2 ⟨rfl, hb2⟩; have hr2 := HR0.out.below hb2 HR0.out.lt; have f0 := hr2.frozen 0; have f1 := hr2.frozen 1; have f2 := hr2.frozen 2; have f3 := hr2.frozen 3; have f4 := hr2.frozen 4; have b0 := hr2.cell 0; have b1 := hr2.cell 1; have b2 := hr2.cell 2; have b3 := hr2.cell 3; have b4 := hr2.cell 4; have HR2 := Lib.hid hr2; have HB2 := Lib.hid (show Below bx w w2 by have := HB0.out; rw [HBX.out] at this; exact this.trans (hb2.mono (by have := HR0.out.lt; omega))); clear hr2 hb2)
    go_wp2_with fail
    have hle : w.heap.size ≤ bx := Nat.le_of_eq HBX.out
    have hbw : Below w.heap.size w w2 := by rw [HBX.out]; exact HB2.out
    have hrs0 := rowsetG5 HR2.out (.int .i64 0) (.int .i64 0) (.int .i64 0) (.int .i64 0) (.int .i64 0) 0
    have hrs := fun i => rowsetG5 HR2.out (.int .i64 0) (.int .i64 0) (.int .i64 0) (.int .i64 0) (.int .i64 0) i
    exact bodyPost_ret (v := .tuple #[.agg #[.int .i64 0, .int .i64 0, .int .i64 0, .int .i64 0, .int .i64 0], .int .i64 k]) (by simp [results, Tryz.results9, go_sem, hrs]) rfl ⟨⟨0, 0, 0, 0, 0, rfl⟩, (((((hbw.setCell hle _).setCell hle _).setCell hle _).setCell hle _).setCell hle _)⟩
set_option maxHeartbeats 4000000 in
theorem implExtentsOn_any {w : World} {n c : Nat} {A : Option Addr} {s : Nat → ByteArray} (hs : Sl w w.heap.size A n (fun i => .string (s i))) (hsz : ∀ i, i < n → (s i).size ≤ 9223372036854775807) (hn : n ≤ c) (hn2 : n ≤ 9223372036854775807) :
    Calls Tryz.prog 13 #[.slice A n c] w (LayOut4 (extC n s) w) := by
  have hb0 := (Below.refl w.heap.size w).alloc (Nat.le_refl _) (.cells #[.int .i64 0, .int .i64 0, .int .i64 0, .int .i64 0] 34)
  have hr0 := Rw.new w 34 #[.int .i64 0, .int .i64 0, .int .i64 0, .int .i64 0]
  have ho := implOpenX ((hs.below hb0).more hb0.size) hsz hn hn2
  have HB0 := Lib.hid hb0
  have HR0 := Lib.hid hr0
  by_cases h : opensX n s
  · rw [extC_yes h]
    have HO := Lib.hid (ho.mono (R' := fun r w' => ∃ p g z E t N c u, r = .returned (.tuple #[.pointer (some ⟨p, 0, none⟩), .bool true]) ∧ XW w' p g n z E t N c u ∧ Below (w.alloc (.cells #[.int .i64 0, .int .i64 0, .int .i64 0, .int .i64 0] 34)).heap.size (w.alloc (.cells #[.int .i64 0, .int .i64 0, .int .i64 0, .int .i64 0] 34)) w') (fun r w' q => by
      obtain ⟨p, h1, g, c, h2, _, h3, _⟩ := q.1 h
      exact ⟨_, _, _, _, _, _, _, _, h1, h2, h3⟩))
    clear ho hs hsz h hb0 hr0
    go_enter Tryz.func13, Tryz.ntmps13
    go_upto_region 1 with fail
    obtain ⟨bx, hbx⟩ : ∃ b, w.heap.size = b := ⟨_, rfl⟩
    rw [hbx] at HR0
    rw [hbx]
    have HBX := Lib.hid hbx
    clear hbx
    generalize w.alloc (.cells #[.int .i64 0, .int .i64 0, .int .i64 0, .int .i64 0] 34) = W0 at *
    go_upto_region 2 with (go_at_call 20; refine HO.out.mono ?_; rintro e w2 ⟨p, g, z, E, t, N, c3, u, rfl, hc, hb2⟩; have hr2 := HR0.out.below hb2 HR0.out.lt; have k0 := hc.c0; have k1 := hc.c1; have k2 := hc.c2; have k3 := hc.c3; have f0 := hr2.frozen 0; have f1 := hr2.frozen 1; have f2 := hr2.frozen 2; have f3 := hr2.frozen 3; have b0 := hr2.cell 0; have b1 := hr2.cell 1; have b2 := hr2.cell 2; have b3 := hr2.cell 3; have HR2 := Lib.hid hr2; have HB2 := Lib.hid (show Below bx w w2 by have := HB0.out; rw [HBX.out] at this; exact this.trans (hb2.mono (by have := HR0.out.lt; omega))); clear hr2 hb2)
    go_wp2_with fail
    have hle : w.heap.size ≤ bx := Nat.le_of_eq HBX.out
    have hbw : Below w.heap.size w w2 := by rw [HBX.out]; exact HB2.out
    have hrs0 := rowsetG4 HR2.out (.int .i64 (n : Int)) (.int .i64 (z : Int)) (.int .i64 (E : Int)) (.int .i64 (t : Int)) 0
    have hrs := fun i => rowsetG4 HR2.out (.int .i64 (n : Int)) (.int .i64 (z : Int)) (.int .i64 (E : Int)) (.int .i64 (t : Int)) i
    exact bodyPost_ret (v := .tuple #[.agg #[.int .i64 (n : Int), .int .i64 (z : Int), .int .i64 (E : Int), .int .i64 (t : Int)], .int .i64 0]) (by simp [results, Tryz.results13, go_sem, hrs]) rfl ⟨⟨(n : Int), (z : Int), (E : Int), (t : Int), rfl⟩, ((((hbw.setCell hle _).setCell hle _).setCell hle _).setCell hle _)⟩
  · rw [extC_no h]
    have HO := Lib.hid (ho.mono (R' := fun r w' => r = .returned (.tuple #[.pointer none, .bool false]) ∧ Below (w.alloc (.cells #[.int .i64 0, .int .i64 0, .int .i64 0, .int .i64 0] 34)).heap.size (w.alloc (.cells #[.int .i64 0, .int .i64 0, .int .i64 0, .int .i64 0] 34)) w') (fun r w' q => q.2 h))
    clear ho hs hsz h hb0 hr0
    go_enter Tryz.func13, Tryz.ntmps13
    go_upto_region 1 with fail
    obtain ⟨bx, hbx⟩ : ∃ b, w.heap.size = b := ⟨_, rfl⟩
    rw [hbx] at HR0
    rw [hbx]
    have HBX := Lib.hid hbx
    clear hbx
    generalize w.alloc (.cells #[.int .i64 0, .int .i64 0, .int .i64 0, .int .i64 0] 34) = W0 at *
    go_upto_region 2 with (go_at_call 20; refine HO.out.mono ?_; rintro e w2 ⟨rfl, hb2⟩; have hr2 := HR0.out.below hb2 HR0.out.lt; have f0 := hr2.frozen 0; have f1 := hr2.frozen 1; have f2 := hr2.frozen 2; have f3 := hr2.frozen 3; have b0 := hr2.cell 0; have b1 := hr2.cell 1; have b2 := hr2.cell 2; have b3 := hr2.cell 3; have HR2 := Lib.hid hr2; have HB2 := Lib.hid (show Below bx w w2 by have := HB0.out; rw [HBX.out] at this; exact this.trans (hb2.mono (by have := HR0.out.lt; omega))); clear hr2 hb2)
    go_wp2_with fail
    have hle : w.heap.size ≤ bx := Nat.le_of_eq HBX.out
    have hbw : Below w.heap.size w w2 := by rw [HBX.out]; exact HB2.out
    have hrs0 := rowsetG4 HR2.out (.int .i64 0) (.int .i64 0) (.int .i64 0) (.int .i64 0) 0
    have hrs := fun i => rowsetG4 HR2.out (.int .i64 0) (.int .i64 0) (.int .i64 0) (.int .i64 0) i
    exact bodyPost_ret (v := .tuple #[.agg #[.int .i64 0, .int .i64 0, .int .i64 0, .int .i64 0], .int .i64 7]) (by simp [results, Tryz.results13, go_sem, hrs]) rfl ⟨⟨0, 0, 0, 0, rfl⟩, ((((hbw.setCell hle _).setCell hle _).setCell hle _).setCell hle _)⟩
end Go.Proofs.YtjbpibapbonkpaaGreatDoor
namespace Go.Proofs.YtjbpibapbonkpaaGreatDoor
open Go Go.ChangeShapes Go.WideShapes Go.ChangeAt Go.RowKit lib
set_option linter.unusedVariables false
set_option linter.unusedSimpArgs false
set_option maxRecDepth 100000
set_option maxHeartbeats 4000000 in
theorem specExtentsOn_any {w : World} {n c : Nat} {A : Option Addr} {s : Nat → ByteArray} (hs : Sl w w.heap.size A n (fun i => .string (s i))) (hsz : ∀ i, i < n → (s i).size ≤ 9223372036854775807) :
    Calls Tryz.prog 10 #[.slice A n c] w (LayOut4 (extC n s) w) := by
  have hb0 := (Below.refl w.heap.size w).alloc (Nat.le_refl _) (.cells #[.int .i64 0, .int .i64 0, .int .i64 0, .int .i64 0] 34)
  have hr0 := Rw.new w 34 #[.int .i64 0, .int .i64 0, .int .i64 0, .int .i64 0]
  have ho := specOpenX (c := c) ((hs.below hb0).more hb0.size) hsz
  have HB0 := Lib.hid hb0
  have HR0 := Lib.hid hr0
  by_cases h : opensX n s
  · rw [extC_yes h]
    have HO := Lib.hid (ho.mono (R' := fun r w' => ∃ a0 a1 a2 a3 : Int, r = .returned (.tuple #[.agg #[.int .i64 a0, .int .i64 a1, .int .i64 a2, .int .i64 a3], .bool true]) ∧ Below (w.alloc (.cells #[.int .i64 0, .int .i64 0, .int .i64 0, .int .i64 0] 34)).heap.size (w.alloc (.cells #[.int .i64 0, .int .i64 0, .int .i64 0, .int .i64 0] 34)) w') (fun r w' q => ⟨_, _, _, _, q.1 h⟩))
    clear ho hs hsz h hb0 hr0
    go_enter Tryz.func10, Tryz.ntmps10
    go_upto_region 1 with fail
    obtain ⟨bx, hbx⟩ : ∃ b, w.heap.size = b := ⟨_, rfl⟩
    rw [hbx] at HR0
    rw [hbx]
    have HBX := Lib.hid hbx
    clear hbx
    generalize w.alloc (.cells #[.int .i64 0, .int .i64 0, .int .i64 0, .int .i64 0] 34) = W0 at *
    go_upto_region 2 with (go_at_call 16; refine HO.out.mono ?_; rintro e w2 ⟨a0, a1, a2, a3, rfl, hb2⟩; have HB2 := Lib.hid (show Below bx w w2 by have := HB0.out; rw [HBX.out] at this; exact this.trans (hb2.mono (by have := HR0.out.lt; omega))); have HR2 := Lib.hid (HR0.out.below hb2 HR0.out.lt); clear hb2)
    have hr4 := Rw.new w2 34 #[.int .i64 a0, .int .i64 a1, .int .i64 a2, .int .i64 a3]
    have hb4 := (Below.refl w2.heap.size w2).alloc (Nat.le_refl _) (.cells #[.int .i64 a0, .int .i64 a1, .int .i64 a2, .int .i64 a3] 34)
    have hr5 := HR2.out.below hb4 HR2.out.lt
    have HR5 := Lib.hid hr5
    have HB5 := Lib.hid (HB2.out.trans (hb4.mono (by have := HR2.out.lt; omega)))
    have k0 := hr4.cell 0; have k1 := hr4.cell 1; have k2 := hr4.cell 2; have k3 := hr4.cell 3
    have f0 := hr5.frozen 0; have f1 := hr5.frozen 1; have f2 := hr5.frozen 2; have f3 := hr5.frozen 3
    have q0 := hr5.cell 0; have q1 := hr5.cell 1; have q2 := hr5.cell 2; have q3 := hr5.cell 3
    have hne : bx ≠ w2.heap.size := by have := HR2.out.lt; omega
    clear hr4 hb4 hr5
    generalize w2.alloc (.cells #[.int .i64 a0, .int .i64 a1, .int .i64 a2, .int .i64 a3] 34) = W5 at *
    obtain ⟨g4, hg4⟩ : ∃ g, w2.heap.size = g := ⟨_, rfl⟩
    rw [hg4] at k0 k1 k2 k3 hne ⊢
    have hne2 : g4 ≠ bx := fun e => hne e.symm
    clear hg4
    go_wp2_with fail
    have hle : w.heap.size ≤ bx := Nat.le_of_eq HBX.out
    have hbw : Below w.heap.size w W5 := by rw [HBX.out]; exact HB5.out
    have hrs := fun i => rowsetG4 HR5.out (.int .i64 a0) (.int .i64 a1) (.int .i64 a2) (.int .i64 a3) i
    exact bodyPost_ret (v := .tuple #[.agg #[.int .i64 a0, .int .i64 a1, .int .i64 a2, .int .i64 a3], .int .i64 0]) (by simp [results, Tryz.results10, go_sem, hrs]) rfl ⟨⟨a0, a1, a2, a3, rfl⟩, ((((hbw).setCell hle _).setCell hle _).setCell hle _).setCell hle _⟩
  · rw [extC_no h]
    have HO := Lib.hid (ho.mono (R' := fun r w' => r = .returned (.tuple #[.agg #[.int .i64 0, .int .i64 0, .int .i64 0, .int .i64 0], .bool false]) ∧ Below (w.alloc (.cells #[.int .i64 0, .int .i64 0, .int .i64 0, .int .i64 0] 34)).heap.size (w.alloc (.cells #[.int .i64 0, .int .i64 0, .int .i64 0, .int .i64 0] 34)) w') (fun r w' q => q.2 h))
    clear ho hs hsz h hb0 hr0
    go_enter Tryz.func10, Tryz.ntmps10
    go_upto_region 1 with fail
    obtain ⟨bx, hbx⟩ : ∃ b, w.heap.size = b := ⟨_, rfl⟩
    rw [hbx] at HR0
    rw [hbx]
    have HBX := Lib.hid hbx
    clear hbx
    generalize w.alloc (.cells #[.int .i64 0, .int .i64 0, .int .i64 0, .int .i64 0] 34) = W0 at *
    go_upto_region 2 with (go_at_call 16; refine HO.out.mono ?_; rintro e w2 ⟨rfl, hb2⟩; have HB2 := Lib.hid (show Below bx w w2 by have := HB0.out; rw [HBX.out] at this; exact this.trans (hb2.mono (by have := HR0.out.lt; omega))); have HR2 := Lib.hid (HR0.out.below hb2 HR0.out.lt); clear hb2)
    have hr4 := Rw.new w2 34 #[.int .i64 0, .int .i64 0, .int .i64 0, .int .i64 0]
    have hb4 := (Below.refl w2.heap.size w2).alloc (Nat.le_refl _) (.cells #[.int .i64 0, .int .i64 0, .int .i64 0, .int .i64 0] 34)
    have hr5 := HR2.out.below hb4 HR2.out.lt
    have HR5 := Lib.hid hr5
    have HB5 := Lib.hid (HB2.out.trans (hb4.mono (by have := HR2.out.lt; omega)))
    have k0 := hr4.cell 0; have k1 := hr4.cell 1; have k2 := hr4.cell 2; have k3 := hr4.cell 3
    have f0 := hr5.frozen 0; have f1 := hr5.frozen 1; have f2 := hr5.frozen 2; have f3 := hr5.frozen 3
    have q0 := hr5.cell 0; have q1 := hr5.cell 1; have q2 := hr5.cell 2; have q3 := hr5.cell 3
    have hne : bx ≠ w2.heap.size := by have := HR2.out.lt; omega
    clear hr4 hb4 hr5
    generalize w2.alloc (.cells #[.int .i64 0, .int .i64 0, .int .i64 0, .int .i64 0] 34) = W5 at *
    obtain ⟨g4, hg4⟩ : ∃ g, w2.heap.size = g := ⟨_, rfl⟩
    rw [hg4] at k0 k1 k2 k3 hne ⊢
    have hne2 : g4 ≠ bx := fun e => hne e.symm
    clear hg4
    go_wp2_with fail
    have hle : w.heap.size ≤ bx := Nat.le_of_eq HBX.out
    have hbw : Below w.heap.size w W5 := by rw [HBX.out]; exact HB5.out
    have hrs := fun i => rowsetG4 HR5.out (.int .i64 0) (.int .i64 0) (.int .i64 0) (.int .i64 0) i
    exact bodyPost_ret (v := .tuple #[.agg #[.int .i64 0, .int .i64 0, .int .i64 0, .int .i64 0], .int .i64 7]) (by simp [results, Tryz.results10, go_sem, hrs]) rfl ⟨⟨0, 0, 0, 0, rfl⟩, ((((hbw).setCell hle _).setCell hle _).setCell hle _).setCell hle _⟩
set_option maxHeartbeats 4000000 in
theorem implGuess_any {w : World} {n c : Nat} {A : Option Addr} {s : Nat → ByteArray} (hn : n ≤ 1048576) (hnc : n ≤ c) (hsz : ∀ i, i < n → (s i).size ≤ 9223372036854775807) (hs : Sl w w.heap.size A n (fun i => .string (s i))) :
    Calls Tryz.prog 7 #[.slice A n c] w fun e w' => e = .returned (.tuple #[.int .i64 (gsT n s).1, .int .i64 (gsT n s).2]) ∧ Below w.heap.size w w' := by
  have HL := Lib.hid (implLayoutOf_any hs hsz hnc (by omega))
  have HX := Lib.hid (fun (W : World) (hW : Below w.heap.size w W) => implExtentsOn_any ((hs.below hW).more hW.size) hsz hnc (by omega))
  have HK := Lib.hid (fun (W : World) (hW : Below w.heap.size w W) => implCheck_any (c := c) hn ((hs.below hW).more hW.size))
  clear hs hsz
  unfold gsT
  obtain ⟨k1, hk1⟩ : ∃ k, layC n s = k := ⟨_, rfl⟩
  obtain ⟨k2, hk2⟩ : ∃ k, extC n s = k := ⟨_, rfl⟩
  obtain ⟨k3, hk3⟩ : ∃ k, (ckL n s).length = k := ⟨_, rfl⟩
  rw [hk1] at HL ⊢
  rw [hk2] at HX ⊢
  rw [hk3]
  have HK2 := Lib.hid (fun (W : World) (hW : Below w.heap.size w W) => (HK.out W hW).mono (R' := fun e w' => ∃ A c, e = .returned (.slice A k3 c) ∧ Below W.heap.size W w') (fun e w' h => by
    obtain ⟨A, c, h1, _, h3⟩ := h
    rw [hk3] at h1
    exact ⟨A, c, h1, h3⟩))
  clear hk1 hk2 hk3 HK
  by_cases h1 : k1 = 0
  · subst h1
    rw [if_pos rfl]
    go_enter Tryz.func7, Tryz.ntmps7
    go_wp2_with ((go_at_call 12; refine HL.out.mono ?_; rintro e w1 ⟨⟨a0, a1, a2, a3, a4, rfl⟩, hb1⟩; have hb2 := hb1.alloc hb1.size (.cells #[.int .i64 a0, .int .i64 a1, .int .i64 a2, .int .i64 a3, .int .i64 a4] 30); have HB2 := Lib.hid hb2; clear hb1 hb2))
    go_ret2
    exact ⟨rfl, HB2.out⟩
  · have t1 : (k1 == 0) = false := by simpa using h1
    rw [if_neg h1]
    by_cases h2 : k2 = 0
    · subst h2
      rw [if_pos rfl]
      clear h1
      go_enter Tryz.func7, Tryz.ntmps7
      go_wp2_with (first
        | (go_at_call 12; refine HL.out.mono ?_; rintro e w1 ⟨⟨a0, a1, a2, a3, a4, rfl⟩, hb1⟩; have hb2 := hb1.alloc hb1.size (.cells #[.int .i64 a0, .int .i64 a1, .int .i64 a2, .int .i64 a3, .int .i64 a4] 30); have HB2 := Lib.hid hb2; clear hb1 hb2)
        | (go_at_call 13; refine (HX.out _ HB2.out).mono ?_; rintro e w3 ⟨⟨c0, c1, c2, c3, rfl⟩, hb3⟩; have hb4 := (HB2.out.trans (hb3.mono HB2.out.size)); have hb5 := hb4.alloc hb4.size (.cells #[.int .i64 c0, .int .i64 c1, .int .i64 c2, .int .i64 c3] 34); have HB5 := Lib.hid hb5; clear hb3 hb4 hb5))
      go_ret2
      exact ⟨rfl, HB5.out⟩
    · have t2 : (k2 == 0) = false := by simpa using h2
      rw [if_neg h2]
      clear h1 h2
      by_cases h3 : k3 = 0
      · subst h3
        rw [if_pos rfl]
        go_enter Tryz.func7, Tryz.ntmps7
        go_wp2_with (first
        | (go_at_call 12; refine HL.out.mono ?_; rintro e w1 ⟨⟨a0, a1, a2, a3, a4, rfl⟩, hb1⟩; have hb2 := hb1.alloc hb1.size (.cells #[.int .i64 a0, .int .i64 a1, .int .i64 a2, .int .i64 a3, .int .i64 a4] 30); have HB2 := Lib.hid hb2; clear hb1 hb2)
        | (go_at_call 13; refine (HX.out _ HB2.out).mono ?_; rintro e w3 ⟨⟨c0, c1, c2, c3, rfl⟩, hb3⟩; have hb4 := (HB2.out.trans (hb3.mono HB2.out.size)); have hb5 := hb4.alloc hb4.size (.cells #[.int .i64 c0, .int .i64 c1, .int .i64 c2, .int .i64 c3] 34); have HB5 := Lib.hid hb5; clear hb3 hb4 hb5)
        | (go_at_call 14; refine (HK2.out _ HB5.out).mono ?_; rintro e w6 ⟨A6, c6, rfl, hb6⟩))
        go_ret2
        exact ⟨rfl, HB5.out.trans (hb6.mono HB5.out.size)⟩
      · have t3 : ((k3 : Int) == 0) = false := by simp; omega
        rw [if_neg h3]
        clear h3
        go_enter Tryz.func7, Tryz.ntmps7
        go_wp2_with (first
        | (go_at_call 12; refine HL.out.mono ?_; rintro e w1 ⟨⟨a0, a1, a2, a3, a4, rfl⟩, hb1⟩; have hb2 := hb1.alloc hb1.size (.cells #[.int .i64 a0, .int .i64 a1, .int .i64 a2, .int .i64 a3, .int .i64 a4] 30); have HB2 := Lib.hid hb2; clear hb1 hb2)
        | (go_at_call 13; refine (HX.out _ HB2.out).mono ?_; rintro e w3 ⟨⟨c0, c1, c2, c3, rfl⟩, hb3⟩; have hb4 := (HB2.out.trans (hb3.mono HB2.out.size)); have hb5 := hb4.alloc hb4.size (.cells #[.int .i64 c0, .int .i64 c1, .int .i64 c2, .int .i64 c3] 34); have HB5 := Lib.hid hb5; clear hb3 hb4 hb5)
        | (go_at_call 14; refine (HK2.out _ HB5.out).mono ?_; rintro e w6 ⟨A6, c6, rfl, hb6⟩))
        go_ret2
        exact ⟨rfl, HB5.out.trans (hb6.mono HB5.out.size)⟩
set_option maxHeartbeats 4000000 in
theorem specGuess_any {w : World} {n c : Nat} {A : Option Addr} {s : Nat → ByteArray} (hn : n ≤ 1048576) (hnc : n ≤ c) (hsz : ∀ i, i < n → (s i).size ≤ 9223372036854775807) (hs : Sl w w.heap.size A n (fun i => .string (s i))) :
    Calls Tryz.prog 5 #[.slice A n c] w fun e w' => e = .returned (.tuple #[.int .i64 (gsT n s).1, .int .i64 (gsT n s).2]) ∧ Below w.heap.size w w' := by
  have HL := Lib.hid (specLayoutOf_any hs hsz hnc (by omega))
  have HX := Lib.hid (fun (W : World) (hW : Below w.heap.size w W) => specExtentsOn_any (c := c) ((hs.below hW).more hW.size) hsz)
  have HK := Lib.hid (fun (W : World) (hW : Below w.heap.size w W) => specCheck_any (c := c) hn ((hs.below hW).more hW.size))
  clear hs hsz
  unfold gsT
  obtain ⟨k1, hk1⟩ : ∃ k, layC n s = k := ⟨_, rfl⟩
  obtain ⟨k2, hk2⟩ : ∃ k, extC n s = k := ⟨_, rfl⟩
  obtain ⟨k3, hk3⟩ : ∃ k, (ckL n s).length = k := ⟨_, rfl⟩
  rw [hk1] at HL ⊢
  rw [hk2] at HX ⊢
  rw [hk3]
  have HK2 := Lib.hid (fun (W : World) (hW : Below w.heap.size w W) => (HK.out W hW).mono (R' := fun e w' => ∃ A c, e = .returned (.slice A k3 c) ∧ Below W.heap.size W w') (fun e w' h => by
    obtain ⟨A, c, h1, _, h3⟩ := h
    rw [hk3] at h1
    exact ⟨A, c, h1, h3⟩))
  clear hk1 hk2 hk3 HK
  by_cases h1 : k1 = 0
  · subst h1
    rw [if_pos rfl]
    go_enter Tryz.func5, Tryz.ntmps5
    go_wp2_with (first
        | (go_at_call 9; refine HL.out.mono ?_; rintro e w1 ⟨⟨a0, a1, a2, a3, a4, rfl⟩, hb1⟩; have hb2 := hb1.alloc hb1.size (.cells #[.int .i64 a0, .int .i64 a1, .int .i64 a2, .int .i64 a3, .int .i64 a4] 30); have HB2 := Lib.hid hb2; clear hb1 hb2)
        | (go_at_call 10; refine (HX.out _ HB2.out).mono ?_; rintro e w3 ⟨⟨c0, c1, c2, c3, rfl⟩, hb3⟩; have hb4 := (HB2.out.trans (hb3.mono HB2.out.size)); have hb5 := hb4.alloc hb4.size (.cells #[.int .i64 c0, .int .i64 c1, .int .i64 c2, .int .i64 c3] 34); have HB5 := Lib.hid hb5; clear hb3 hb4 hb5))
    go_ret2
    exact ⟨rfl, HB5.out⟩
  · have t1 : (k1 == 0) = false := by simpa using h1
    rw [if_neg h1]
    by_cases h2 : k2 = 0
    · subst h2
      rw [if_pos rfl]
      clear h1
      go_enter Tryz.func5, Tryz.ntmps5
      go_wp2_with (first
        | (go_at_call 9; refine HL.out.mono ?_; rintro e w1 ⟨⟨a0, a1, a2, a3, a4, rfl⟩, hb1⟩; have hb2 := hb1.alloc hb1.size (.cells #[.int .i64 a0, .int .i64 a1, .int .i64 a2, .int .i64 a3, .int .i64 a4] 30); have HB2 := Lib.hid hb2; clear hb1 hb2)
        | (go_at_call 10; refine (HX.out _ HB2.out).mono ?_; rintro e w3 ⟨⟨c0, c1, c2, c3, rfl⟩, hb3⟩; have hb4 := (HB2.out.trans (hb3.mono HB2.out.size)); have hb5 := hb4.alloc hb4.size (.cells #[.int .i64 c0, .int .i64 c1, .int .i64 c2, .int .i64 c3] 34); have HB5 := Lib.hid hb5; clear hb3 hb4 hb5))
      go_ret2
      exact ⟨rfl, HB5.out⟩
    · have t2 : (k2 == 0) = false := by simpa using h2
      rw [if_neg h2]
      clear h1 h2
      by_cases h3 : k3 = 0
      · subst h3
        rw [if_pos rfl]
        go_enter Tryz.func5, Tryz.ntmps5
        go_wp2_with (first
        | (go_at_call 9; refine HL.out.mono ?_; rintro e w1 ⟨⟨a0, a1, a2, a3, a4, rfl⟩, hb1⟩; have hb2 := hb1.alloc hb1.size (.cells #[.int .i64 a0, .int .i64 a1, .int .i64 a2, .int .i64 a3, .int .i64 a4] 30); have HB2 := Lib.hid hb2; clear hb1 hb2)
        | (go_at_call 10; refine (HX.out _ HB2.out).mono ?_; rintro e w3 ⟨⟨c0, c1, c2, c3, rfl⟩, hb3⟩; have hb4 := (HB2.out.trans (hb3.mono HB2.out.size)); have hb5 := hb4.alloc hb4.size (.cells #[.int .i64 c0, .int .i64 c1, .int .i64 c2, .int .i64 c3] 34); have HB5 := Lib.hid hb5; clear hb3 hb4 hb5)
        | (go_at_call 11; refine (HK2.out _ HB5.out).mono ?_; rintro e w6 ⟨A6, c6, rfl, hb6⟩))
        go_ret2
        exact ⟨rfl, HB5.out.trans (hb6.mono HB5.out.size)⟩
      · have t3 : ((k3 : Int) == 0) = false := by simp; omega
        rw [if_neg h3]
        clear h3
        go_enter Tryz.func5, Tryz.ntmps5
        go_wp2_with (first
        | (go_at_call 9; refine HL.out.mono ?_; rintro e w1 ⟨⟨a0, a1, a2, a3, a4, rfl⟩, hb1⟩; have hb2 := hb1.alloc hb1.size (.cells #[.int .i64 a0, .int .i64 a1, .int .i64 a2, .int .i64 a3, .int .i64 a4] 30); have HB2 := Lib.hid hb2; clear hb1 hb2)
        | (go_at_call 10; refine (HX.out _ HB2.out).mono ?_; rintro e w3 ⟨⟨c0, c1, c2, c3, rfl⟩, hb3⟩; have hb4 := (HB2.out.trans (hb3.mono HB2.out.size)); have hb5 := hb4.alloc hb4.size (.cells #[.int .i64 c0, .int .i64 c1, .int .i64 c2, .int .i64 c3] 34); have HB5 := Lib.hid hb5; clear hb3 hb4 hb5)
        | (go_at_call 11; refine (HK2.out _ HB5.out).mono ?_; rintro e w6 ⟨A6, c6, rfl, hb6⟩))
        go_ret2
        exact ⟨rfl, HB5.out.trans (hb6.mono HB5.out.size)⟩
end Go.Proofs.YtjbpibapbonkpaaGreatDoor
