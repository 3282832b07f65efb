/-
  Disks of chains: SoundFiles and KeptFiles, both sides.
-/
import Derived.Test.YtapkckpjeoedaaaGreatDoorSndTop
import Derived.Test.YtapkckpjeoedaaaGreatDoorSndTopS
import Derived.Test.YtapkckpjeoedaaaGreatDoorChainTop
import Derived.Test.YtapkckpjeoedaaaGreatDoorStrT
import Derived.Test.YtapkckpjeoedaaaGreatDoorFIdx
namespace Go.Proofs.YtapkckpjeoedaaaGreatDoor
open Go Go.ChangeShapes Go.WideShapes Go.ChangeAt Go.RowKit lib
set_option linter.unusedVariables false
set_option maxRecDepth 100000
/-- the files without problems of a disk -/
noncomputable def sfOf (n : Nat) (s : Nat → ByteArray) : List (ByteArray × ByteArray) := sndS n (s 0).size (dataN n (s 0).size) (joinU (s 0).size s) (entsN n)
theorem sfOf_inc (n : Nat) (s : Nat → ByteArray) : IncF (sfOf n s) := sndS_inc _
theorem sfOf_len {n : Nat} {s : Nat → ByteArray} (h : entsN n ≤ 16) : (sfOf n s).length ≤ 16 := by
  unfold sfOf
  rw [sndS_len]
  exact Nat.le_trans (sndL_len _) h
/-- how the listing of sound files ends -/
def SfOut (n : Nat) (s : Nat → ByteArray) (r : Ending) (w w' : World) : Prop :=
  (opens n s → ∃ A c, r = .returned (.tuple #[.slice A (sfOf n s).length c, .int .i64 0]) ∧ FileR w.heap.size w' A c (sfOf n s)) ∧ (¬ opens n s → r = .returned (.tuple #[.slice none 0 0, .int .i64 (openCode n s)])) ∧ Below w.heap.size w w'
theorem implSoundFiles_any {w : World} {n c : Nat} {A : Option Addr} {s : Nat → ByteArray} (hs : Sl w w.heap.size A n (fun i => .string (s i))) (hsz : ∀ i, i < n → (s i).size ≤ 9223372036854775807) (hn : n ≤ c) (hn2 : n ≤ 9223372036854775807) :
    Calls Tryz.prog 15 #[.slice A n c] w fun r w' => SfOut n s r w w' := by
  have HO := Lib.hid (implOpen hs hsz hn hn2)
  by_cases ho : opens n s
  · obtain ⟨f1, f2, f3, f4, f5, f6⟩ := walk_fit ho.1
    have hf8 := shape_facts ho.1
    have hsl := sfOf_len (s := s) f4
    have HSN := Lib.hid (fun (D : List (ByteArray × ByteArray)) (hp : D.Perm (sndL n (s 0).size (dataN n (s 0).size) (joinU (s 0).size s) (entsN n))) hs => snd_sorted (k := entsN n) hp hs)
    have hll := sndL_len (n := n) (z := (s 0).size) (t := dataN n (s 0).size) (U := joinU (s 0).size s) (entsN n)
    obtain ⟨R, hR⟩ : ∃ R, sfOf n s = R := ⟨_, rfl⟩
    have HR := Lib.hid hR
    unfold SfOut
    rw [hR]
    unfold sfOf at hR
    rw [hR] at HSN
    obtain ⟨z, hz⟩ : ∃ z, (s 0).size = z := ⟨_, rfl⟩
    rw [hz] at f2 f3 f5 f6 hf8 HSN hll
    have HZ := Lib.hid hz
    have HL := Lib.hid ho
    have F6 := Lib.hid f6
    clear hs hsz hz f6 hR hsl
    go_enter Tryz.func15, Tryz.ntmps15
    go_wp2_with (first
      | (go_at_call 27; refine HO.out.mono ?_; rintro r w1 ⟨h1, _⟩; obtain ⟨p, rfl, ow⟩ := h1 HL.out; rw [HZ.out] at ow; obtain ⟨g, cc, hc, hcap, hb1, hp, hg⟩ := ow)
      | (go_at_call 32; refine (implSound_any hc (by omega) (by omega) f1 f5 f2 rfl f3 hcap f4 rfl F6.out).mono ?_; rintro r w2 ⟨A2, c2, rfl, ho2, hb2⟩)
      | (go_at_call 33; refine (sortFile_any (w0 := w) (ho2.base hb1.size) (hb1.trans (hb2.mono hb1.size)) (by omega)).mono ?_; rintro r w3 ⟨rfl, D, hperm, hDl, hsort, ho3, hb3⟩; have hD := HSN.out D hperm hsort; rw [← hDl]; subst hD; clear hperm hsort hDl))
    go_ret2
    exact ⟨fun _ => ⟨A2, c2, rfl, ho3⟩, fun h => absurd HL.out h, hb3⟩
  · have hne := openCode_ne n s
    have HL := Lib.hid ho
    have HCD' := Lib.hid (show SfOut n s = fun r w w' => SfOut n s r w w' from rfl)
    unfold SfOut
    obtain ⟨code, hcode⟩ : ∃ code, openCode n s = code := ⟨_, rfl⟩
    rw [hcode] at hne ⊢
    have HCD := Lib.hid hcode
    clear ho hs hsz hcode
    rcases hne with rfl | rfl
    all_goals
      go_enter Tryz.func15, Tryz.ntmps15
      go_wp2_with (go_at_call 27; refine HO.out.mono ?_; rintro r w1 ⟨_, h1⟩; have h2 := h1 HL.out; rw [HCD.out] at h2; obtain ⟨rfl, hb1⟩ := h2)
      go_ret2
      exact ⟨fun h => absurd h HL.out, fun _ => rfl, hb1⟩
theorem specSoundFiles_any {w : World} {n c : Nat} {A : Option Addr} {s : Nat → ByteArray} (hs : Sl w w.heap.size A n (fun i => .string (s i))) (hsz : ∀ i, i < n → (s i).size ≤ 9223372036854775807) (hn : n ≤ c) (hn2 : n ≤ 9223372036854775807) :
    Calls Tryz.prog 14 #[.slice A n c] w fun r w' => SfOut n s r w w' := by
  have HO := Lib.hid (specOpen hs hsz hn hn2)
  by_cases ho : opens n s
  · obtain ⟨f1, f2, f3, f4, f5, f6⟩ := walk_fit ho.1
    have hf8 := shape_facts ho.1
    unfold SfOut sfOf
    obtain ⟨z, hz⟩ : ∃ z, (s 0).size = z := ⟨_, rfl⟩
    rw [hz] at f2 f3 f5 f6 hf8 ⊢
    have HZ := Lib.hid hz
    have HL := Lib.hid ho
    have F6 := Lib.hid f6
    clear hs hsz hz f6
    go_enter Tryz.func14, Tryz.ntmps14
    go_wp2_with (first
      | (go_at_call 24; refine HO.out.mono ?_; rintro r w1 ⟨h1, _⟩; obtain ⟨p, rfl, ow⟩ := h1 HL.out; rw [HZ.out] at ow; obtain ⟨g, cc, hc, hcap, hb1, hp, hg⟩ := ow)
      | (go_at_call 31; refine (specSound_any hc (by omega) (by omega) f1 f5 f2 rfl f3 hcap f4 rfl F6.out).mono ?_; rintro r w2 ⟨A2, c2, rfl, ho2, hb2⟩))
    go_ret2
    exact ⟨fun _ => ⟨A2, c2, rfl, ho2.base hb1.size⟩, fun h => absurd HL.out h, hb1.trans (hb2.mono hb1.size)⟩
  · have hne := openCode_ne n s
    have HL := Lib.hid ho
    unfold SfOut
    obtain ⟨code, hcode⟩ : ∃ code, openCode n s = code := ⟨_, rfl⟩
    rw [hcode] at hne ⊢
    have HCD := Lib.hid hcode
    clear ho hs hsz hcode
    rcases hne with rfl | rfl
    all_goals
      go_enter Tryz.func14, Tryz.ntmps14
      go_wp2_with (go_at_call 24; refine HO.out.mono ?_; rintro r w1 ⟨_, h1⟩; have h2 := h1 HL.out; rw [HCD.out] at h2; obtain ⟨rfl, hb1⟩ := h2)
      go_ret2
      exact ⟨fun h => absurd h HL.out, fun _ => rfl, hb1⟩
end Go.Proofs.YtapkckpjeoedaaaGreatDoor
