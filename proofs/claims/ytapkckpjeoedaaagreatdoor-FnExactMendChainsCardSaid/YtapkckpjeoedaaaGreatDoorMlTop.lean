/-
  Disks of chains: files made of lost chains, the program's side.
-/
import Derived.Test.YtapkckpjeoedaaaGreatDoorMlP
import Derived.Test.YtapkckpjeoedaaaGreatDoorLcTop
import Derived.Test.YtapkckpjeoedaaaGreatDoorMeTop
namespace Go.Proofs.YtapkckpjeoedaaaGreatDoor
open Go Go.ChangeShapes Go.WideShapes Go.ChangeAt Go.RowKit lib
set_option linter.unusedVariables false
set_option maxRecDepth 100000
set_option maxHeartbeats 2000000 in
theorem implVacant_any {w : World} {p g n z E d t N c : Nat} {u : Nat → UInt8} (h : ChW w p g n z E d t N c u) (hN : N ≤ 4096) (hcN : N ≤ c) (hE : E ≤ 16) (hd : d = dirN n z) (hfit : ∀ k, k < E → d * z + k * 12 + 12 ≤ N) :
    Calls Tryz.prog 59 #[.pointer (some ⟨p, 0, none⟩)] w fun r w' => VacOut (vacN n z u E) r w w' := by
  obtain ⟨R, hR⟩ : ∃ R, vacN n z u E = R := ⟨_, rfl⟩
  rw [hR]
  have HRR := Lib.hid (show vacGo n z u E 0 none = R from hR)
  have HH := Lib.hid h
  have HFIT := Lib.hid hfit
  have HD := Lib.hid hd
  have c2 := h.c2
  clear h hfit hd hR
  go_enter Tryz.func59, Tryz.ntmps59
  go_wp2_with fail
  go_loopw [4, 13] (fun s4 s13 wr => ∃ (k : Nat) (dl : Option Nat), k ≤ E ∧ s4 = .int .i64 (atI dl) ∧ s13 = .int .i64 k ∧ (∀ q, dl = some q → q < k) ∧ vacGo n z u (E - k) k dl = R ∧ Below w.heap.size w wr) (fun _ s _ => E - (intOf s).toNat)
  case atStart => exact ⟨0, none, by omega, rfl, rfl, (fun q h => by cases h), HRR.out, Below.refl _ _⟩
  case round =>
    obtain ⟨k, dl, hk, rfl, rfl, hdl, hst, hb⟩ := hrel
    have HS := Lib.hid hst
    have HDL := Lib.hid hdl
    have HB := Lib.hid hb
    have HC := Lib.hid (HH.out.below hb)
    have hbz := hb.size
    clear hst hb hdl c2
    by_cases hlt : k < E
    · have t1 := HFIT.out k hlt
      have HBAD := Lib.hid (fun h => vacGo_bad (n := n) (z := z) (U := u) (f := E - (k + 1)) (k := k) (d := dl) h)
      have HHIT := Lib.hid (fun h h2 => vacGo_hit (n := n) (z := z) (U := u) (f := E - (k + 1)) (k := k) (d := dl) h h2)
      have HUSE := Lib.hid (fun h h2 h3 => vacGo_use (n := n) (z := z) (U := u) (f := E - (k + 1)) (k := k) (d := dl) h h2 h3)
      have HDEL := Lib.hid (fun h h2 => vacGo_del (n := n) (z := z) (U := u) (f := E - (k + 1)) (k := k) h h2)
      have HOLD := Lib.hid (fun q h h2 => vacGo_old (n := n) (z := z) (U := u) (f := E - (k + 1)) (k := k) (q := q) h h2)
      rw [show E - (k + 1) + 1 = E - k by omega] at HBAD HHIT HUSE HDEL HOLD
      go_upto_region 6 with (go_at_call 72; refine (implEntry_any k _ HC.out rfl t1 (by omega) hcN (by omega)).mono ?_; intro e2 w2 h2; obtain ⟨b, nm', f', l', us', de', hb0, he0, rfl, hb2, n8, f8, l8, hbf⟩ := entOut_parts h2)
      have hek : entK n z u k = ⟨nm', f', l', us', de'⟩ := by unfold entK; rw [← HD.out, he0]
      have HEK := Lib.hid hek
      have HE0 := Lib.hid he0
      have HOK := Lib.hid (show b = true ↔ okE (fun i => u (dirN n z * z + k * 12 + i)) by rw [← HD.out]; exact hb0)
      have hal := hb2.alloc hb2.size (.cells #[.string nm', .int .i64 f', .int .i64 l', .bool us', .bool de'] 82)
      have hrr := Rw.new w2 82 #[.string nm', .int .i64 f', .int .i64 l', .bool us', .bool de']
      have q0 := hrr.cell 0; have q1 := hrr.cell 1; have q2 := hrr.cell 2; have q3 := hrr.cell 3; have q4 := hrr.cell 4
      have HBA := Lib.hid (HB.out.trans (hal.mono hbz))
      clear hrr hal he0 hb0 h2 hek
      generalize hWW : w2.alloc (.cells #[.string nm', .int .i64 f', .int .i64 l', .bool us', .bool de'] 82) = W3 at *
      clear hWW
      cases b with
      | false =>
        have HN := Lib.hid (show R = none by rw [← HS.out, HBAD.out (fun h => by have := HOK.out.2 h; cases this)])
        clear hbf
        go_wp2_with fail
        go_ret2
        rw [HN.out]
        exact ⟨fun a h => (by cases h), fun _ => ⟨_, rfl⟩, HBA.out⟩
      | true =>
        have HOK1 := Lib.hid (HOK.out.1 rfl)
        have hcase : (us' = false ∧ de' = false) ∨ de' = true ∨ (us' = true ∧ de' = false) := by cases us' <;> cases de' <;> simp
        rcases hcase with ⟨rfl, rfl⟩ | rfl | ⟨rfl, rfl⟩
        · have hz0 := ent_zero (by have := HOK1.out; rw [← HD.out] at this; exact this) HE0.out
          have hq := hz0.1
          have e1 : entryEqB nm' f' l' false false = true := by unfold entryEqB; simp [hz0]
          have HN := Lib.hid (show R = some (some k) by rw [← HS.out, HHIT.out HOK1.out ⟨by rw [HEK.out], by rw [HEK.out]⟩])
          clear hbf hz0 hq
          go_wp2_with fail
          go_ret2
          rw [HN.out]
          exact ⟨(fun a h => by injection h with h; subst h; rfl), fun h => (by cases h), HBA.out⟩
        · have e1 : entryEqB nm' f' l' us' true = false := by unfold entryEqB; simp
          cases dl with
          | none =>
            have HN := Lib.hid (show vacGo n z u (E - (k + 1)) (k + 1) (some k) = R by rw [← HDEL.out HOK1.out (by rw [HEK.out]), HS.out])
            clear hbf
            go_wp2_with fail
            go_roundw
            case rel => exact ⟨k + 1, some k, by omega, rfl, by go_num, (fun q h => by injection h; omega), HN.out, HBA.out⟩
            case measure => simp [intOf]; omega
          | some q =>
            have hqk := HDL.out q rfl
            have HN := Lib.hid (show vacGo n z u (E - (k + 1)) (k + 1) (some q) = R by rw [← HOLD.out q HOK1.out (.inr (by rw [HEK.out])), HS.out])
            have e2 : decide ((atI (some q)) < 0) = false := by show decide ((q : Int) < 0) = false; simp
            clear hbf
            go_wp2_with fail
            go_roundw
            case rel => exact ⟨k + 1, some q, by omega, rfl, by go_num, (fun q' h => by injection h; omega), HN.out, HBA.out⟩
            case measure => simp [intOf]; omega
        · have e1 : entryEqB nm' f' l' true false = false := by unfold entryEqB; simp
          have HN := Lib.hid (show vacGo n z u (E - (k + 1)) (k + 1) dl = R by rw [← HUSE.out HOK1.out (by rw [HEK.out]) (by rw [HEK.out]), HS.out])
          clear hbf
          go_wp2_with fail
          go_roundw
          case rel => exact ⟨k + 1, dl, by omega, rfl, by go_num, (fun q' h => by have := HDL.out q' h; omega), HN.out, HBA.out⟩
          case measure => simp [intOf]; omega
    · obtain rfl : k = E := by omega
      have HN := Lib.hid (show R = some dl by rw [← HS.out, Nat.sub_self]; rfl)
      go_wp2_with fail
      go_ret2
      rw [HN.out]
      exact ⟨(fun a h => by injection h with h; subst h; rfl), fun h => (by cases h), HB.out⟩
theorem implRelS_any {w : World} {p g n z E d t N c cl L : Nat} {u : Nat → UInt8} {A : Option Addr} {l : List Nat} (h : ChW w p g n z E d t N c u) (hi : ISl w g A l) (hL : l.length = L) (hl : ∀ a, a ∈ l → a < n) (hlen : L ≤ 128) (hNz : z + n ≤ N) (hN : N ≤ 4096) :
    Calls Tryz.prog 61 #[.pointer (some ⟨p, 0, none⟩), .slice A L cl] w fun r w' => r = .returned (.tuple #[]) ∧ ChW w' p g n z E d t N c (frU z u l) ∧ w.grownBy w' (some g) := by
  subst hL
  have HI := Lib.hid hi
  have HH := Lib.hid h
  have HL := Lib.hid hl
  clear hi h hl
  go_enter Tryz.func61, Tryz.ntmps61
  go_wp2_with fail
  go_loopw [8] (fun s8 wr => ∃ i : Nat, i ≤ l.length ∧ s8 = .int .i64 i ∧ ChW wr p g n z E d t N c (frU z u (l.take i)) ∧ w.grownBy wr (some g)) (fun s _ => l.length - (intOf s).toNat)
  case atStart => exact ⟨0, by omega, rfl, by rw [List.take_zero, frU_nil]; exact HH.out, only_refl _ _⟩
  case round =>
    obtain ⟨i, hik, rfl, hc, hgw⟩ := hrel
    have HC := Lib.hid hc
    have HG := Lib.hid hgw
    by_cases hlt : i < l.length
    · obtain ⟨bb, oo, hA, _, _, hcc⟩ := (HI.out.grown hgw) i hlt
      have hy := HL.out (l.getD i 0) (by rw [List.getD_eq_getElem?_getD, List.getElem?_eq_getElem hlt]; exact List.getElem_mem hlt)
      have HRT := Lib.hid (frU_take z u l hlt)
      subst hA
      obtain ⟨y, hyy⟩ : ∃ y, l.getD i 0 = y := ⟨_, rfl⟩
      rw [hyy] at hcc hy
      have HYY := Lib.hid hyy
      have gc := hc.row.cell (i := z + y) (by omega)
      have gf := hc.row.frozen (i := z + y) (by omega)
      clear hyy hgw
      go_wp2_with (go_at_call 65; refine (implLink_any y hc (by omega) (by omega)).mono ?_; rintro e3 w3 ⟨rfl, rfl⟩)
      go_roundw
      case rel => exact ⟨i + 1, by omega, by go_num, by rw [← HRT.out, HYY.out]; exact (HC.out.put (z + y) 0 rfl).drew, only_drew (only_setCell HG.out (.inl rfl) _)⟩
      case measure => simp [intOf]; omega
    · have hie : i = l.length := by omega
      clear hgw
      go_wp2
      go_end0
      have hc' := HC.out
      rw [hie, List.take_length] at hc'
      exact ⟨rfl, hc', HG.out⟩
end Go.Proofs.YtapkckpjeoedaaaGreatDoor
