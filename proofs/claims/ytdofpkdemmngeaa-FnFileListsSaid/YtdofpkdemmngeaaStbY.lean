/-
  slices.SortStableFunc at impl.File: the walks. (Printed by mkstb.py.)
  slices.SortStableFunc at impl.File: the walks: merging, the whole. (Printed by mkstb.py.)
  slices.SortStableFunc at impl.File: the whole: a sorted permutation. (Printed by mkstb.py.)
  slices.SortStableFunc at impl.File: a row of the call's own, sorted. (Printed by mkstb.py.)
-/
import Derived.Test.YtdofpkdemmngeaaBase
import Derived.Test.YtdofpkdemmngeaaStbZ
import Derived.Shelf.SlSortCmp.KitK
import Derived.Sort.WalkB2
import Derived.Sort.WalkB12
import Derived.Deep.LoopGhost
import Derived.Deep.DeepCutAuto
import Derived.Deep.CutBlock
import Derived.Outline
import Derived.Test.YtdofpkdemmngeaaIns
import Derived.Sort.OwnSorted
import Derived.Lib.OwnBridge
namespace Go.Proofs.Ytdofpkdemmngeaa
open Go Go.Shelf Go.RowKit Go.Lib Go.Sort lib
set_option linter.unusedVariables false
set_option linter.unusedSimpArgs false
/-- what the walks ask of a program: the library's bodies, and their types; the element has k cells -/
structure SF (P : Program) (k : Nat) : Prop where
  mixed : P.follows .mixedOrders = true
  t0 : P.underlying 0 = some (TypeDesc.tuple #[])
  a0 : ∀ w, (isAgg 0).run P w = .ok false w
  z0 : ∀ w, (Go.sizeOf 0).run P w = .ok 1 w
  v0 : ∀ w, (zeroValue 0).run P w = .ok (Value.tuple #[]) w
  t3 : P.underlying 3 = some (TypeDesc.int IntKind.i64)
  a3 : ∀ w, (isAgg 3).run P w = .ok false w
  z3 : ∀ w, (Go.sizeOf 3).run P w = .ok 1 w
  v3 : ∀ w, (zeroValue 3).run P w = .ok (Value.int IntKind.i64 0) w
  t4 : P.underlying 4 = some (TypeDesc.bool)
  a4 : ∀ w, (isAgg 4).run P w = .ok false w
  z4 : ∀ w, (Go.sizeOf 4).run P w = .ok 1 w
  v4 : ∀ w, (zeroValue 4).run P w = .ok (Value.bool false) w
  t9 : P.underlying 84 = some (TypeDesc.int IntKind.u64)
  a9 : ∀ w, (isAgg 84).run P w = .ok false w
  z9 : ∀ w, (Go.sizeOf 84).run P w = .ok 1 w
  v9 : ∀ w, (zeroValue 84).run P w = .ok (Value.int IntKind.u64 0) w
  t22 : P.underlying 24 = some (TypeDesc.slice 43)
  a22 : ∀ w, (isAgg 24).run P w = .ok false w
  z22 : ∀ w, (Go.sizeOf 24).run P w = .ok 1 w
  v22 : ∀ w, (zeroValue 24).run P w = .ok (Value.slice none 0 0) w
  t25 : P.underlying 46 = some (TypeDesc.func #[43, 43] #[3] false)
  a25 : ∀ w, (isAgg 46).run P w = .ok false w
  z25 : ∀ w, (Go.sizeOf 46).run P w = .ok 1 w
  v25 : ∀ w, (zeroValue 46).run P w = .ok (Value.nilFunc) w
  aE : ∀ w, (isAgg 43).run P w = .ok true w
  zE : ∀ w, (Go.sizeOf 43).run P w = .ok k w
  fswr : P.funcs[81]? = some Try.f81
  frot : P.funcs[71]? = some Try.f71
  fsym : P.funcs[52]? = some Try.f52
  fstb : P.funcs[39]? = some Try.f39
  ftop : P.funcs[19]? = some Try.f19
  eswr : ∀ args w, (callFunc 81 args).run P w = .ok (.enter 81 args) w
  erot : ∀ args w, (callFunc 71 args).run P w = .ok (.enter 71 args) w
  esym : ∀ args w, (callFunc 52 args).run P w = .ok (.enter 52 args) w
  estb : ∀ args w, (callFunc 39 args).run P w = .ok (.enter 39 args) w
  eins : ∀ args w, (callFunc 51 args).run P w = .ok (.enter 51 args) w
theorem sF : SF Try.prog 2 where
  mixed := by kernel_rfl
  t0 := Try.underlying0
  a0 := Try.isAgg0
  z0 := Try.sizeOf0
  v0 := fun _ => by kernel_rfl
  t3 := Try.underlying3
  a3 := Try.isAgg3
  z3 := Try.sizeOf3
  v3 := fun _ => by kernel_rfl
  t4 := Try.underlying4
  a4 := Try.isAgg4
  z4 := Try.sizeOf4
  v4 := fun _ => by kernel_rfl
  t9 := Try.underlying84
  a9 := Try.isAgg84
  z9 := Try.sizeOf84
  v9 := fun _ => by kernel_rfl
  t22 := Try.underlying24
  a22 := Try.isAgg24
  z22 := Try.sizeOf24
  v22 := fun _ => by kernel_rfl
  t25 := Try.underlying46
  a25 := Try.isAgg46
  z25 := Try.sizeOf46
  v25 := fun _ => by kernel_rfl
  aE := Try.isAgg43
  zE := Try.sizeOf43
  fswr := Try.func81
  frot := Try.func71
  fsym := Try.func52
  fstb := Try.func39
  ftop := Try.func19
  eswr := enters_of Try.func81 (by kernel_rfl) rfl
  erot := enters_of Try.func71 (by kernel_rfl) rfl
  esym := enters_of Try.func52 (by kernel_rfl) rfl
  estb := enters_of Try.func39 (by kernel_rfl) rfl
  eins := enters_of Try.func51 (by kernel_rfl) rfl
section
variable {P : Program} {α : Type} [Inhabited α] {enc : α → List Value} {k : Nat} {cf : α → α → Int} {g : Nat} {cb : Array Value} {blk off cap : Nat} {d0 : Array α} {w0 : World}
set_option maxHeartbeats 4000000 in
set_option maxRecDepth 1000000 in
theorem swr_call (F : SF P k) (R : RowK enc k w0 blk off d0) (a b n : Nat) (d : Array α) (w : World) (hs : d0.size = d.size) (S : SWK enc k w0 blk off d w) (hab : a + n ≤ b) (hb : b + n ≤ d.size) (hsz : d.size < 1099511627776) :
    Calls P 81 #[.slice (some ⟨blk, off, none⟩) d.size cap, .int .i64 a, .int .i64 b, .int .i64 n, .func (.func g) #[] cb] w fun e w' => e = .returned (.tuple #[]) ∧ SWK enc k w0 blk off (swr d a b n) w' := by
  have mixed := F.mixed; have t0 := F.t0; have a0 := F.a0; have z0 := F.z0; have v0 := F.v0; have t3 := F.t3; have a3 := F.a3; have z3 := F.z3; have v3 := F.v3; have t4 := F.t4; have a4 := F.a4; have z4 := F.z4; have v4 := F.v4; have t9 := F.t9; have a9 := F.a9; have z9 := F.z9; have v9 := F.v9; have t22 := F.t22; have a22 := F.a22; have z22 := F.z22; have v22 := F.v22; have t25 := F.t25; have a25 := F.a25; have z25 := F.z25; have v25 := F.v25; have aE := F.aE; have zE := F.zE
  have S0 : Aside (SWK enc k w0 blk off d w) := S
  clear S
  go_enter F.fswr, Try.ntmps81
  go_wp2
  go_loopg [10] n (fun kx s10 wr => ∃ i : Nat, s10 = .int .i64 i ∧ i ≤ n ∧ n - i ≤ kx ∧ Aside (SWK enc k w0 blk off (swr d a b i) wr))
  case atStart => exact ⟨0, rfl, Nat.zero_le _, by omega, S0⟩
  case round =>
    clear S0
    obtain ⟨i, rfl, hi, hkx, S1⟩ := hrel
    by_cases hlt : i < n
    · have hltz : (i : Int) < (n : Int) := by omega
      obtain ⟨dk, hdk⟩ : ∃ dk, dk = swr d a b i := ⟨_, rfl⟩
      have hds : dk.size = d.size := by rw [hdk, swr_size]
      rw [← hdk] at S1
      have HDK := Lib.hid hdk
      clear hdk
      go_wp2_with fail
      have eaea : (((a : Int) + (i : Int))).toNat = a + i := by omega
      have paea : (0 : Int) ≤ ((a : Int) + (i : Int)) := by omega
      have baea : ((a : Int) + (i : Int)) < (d.size : Int) := by omega
      have raea : IntKind.i64.wrap (((a : Int) + (i : Int))) = ((a : Int) + (i : Int)) := by rw [IntKind.wrap_i64]; omega
      have eaeb : (((b : Int) + (i : Int))).toNat = b + i := by omega
      have paeb : (0 : Int) ≤ ((b : Int) + (i : Int)) := by omega
      have baeb : ((b : Int) + (i : Int)) < (d.size : Int) := by omega
      have raeb : IntKind.i64.wrap (((b : Int) + (i : Int))) = ((b : Int) + (i : Int)) := by rw [IntKind.wrap_i64]; omega
      have S2 : Aside (SWK enc k w0 blk off (swp dk (a + i) (b + i)) ((wr.drew.setCells blk (off + (a + i) * k) (enc dk[b + i]!)).setCells blk (off + (b + i) * k) (enc dk[a + i]!))) := S1.out.swapped R (a + i) (b + i) (by omega) (by omega)
      have lea := S1.out.ld1 R (by omega) P (a + i) (by omega)
      have leb := S1.out.ld1 R (by omega) P (b + i) (by omega)
      have sea := S1.out.st1 R (by omega) P (a + i) (by omega) dk[b + i]!
      have seb := S1.out.st2 R (by omega) P (a + i) (b + i) (by omega) (by omega) dk[b + i]! dk[a + i]!
      have nea : (enc dk[a + i]!).length = k := R.hk _
      have neb : (enc dk[b + i]!).length = k := R.hk _
      generalize enc dk[a + i]! = cIe at S2 lea seb nea
      generalize enc dk[b + i]! = cJe at S2 leb sea seb neb
      clear S1
      go_wp2_with fail
      go_big_region_o
      clear lea leb sea seb
      generalize (wr.drew.setCells blk (off + (a + i) * k) cJe).setCells blk (off + (b + i) * k) cIe = w2 at S2 ⊢
      go_wp2
      go_roundg (n - (i + 1))
      case measure => omega
      case rel => exact ⟨i + 1, by go_num, by omega, Nat.le_refl _, by rw [HDK.out] at S2; exact S2⟩
    · obtain rfl : i = n := by omega
      go_wp2
      go_end0
      exact ⟨rfl, S1.out⟩
/-- a world of the sort's whose row is one that p allows -/
def SRow (enc : α → List Value) (k : Nat) (w0 : World) (blk off : Nat) (p : Array α → Prop) (W : World) : Prop := ∃ d', p d' ∧ SWK enc k w0 blk off d' W
set_option maxHeartbeats 4000000 in
set_option maxRecDepth 1000000 in
theorem rot_call (F : SF P k) (R : RowK enc k w0 blk off d0) (a m b : Nat) (d : Array α) (w : World) (hs : d0.size = d.size) (S : SWK enc k w0 blk off d w) (ham : a < m) (hmb : m < b) (hb : b ≤ d.size) (hsz : d.size < 1099511627776) :
    Calls P 71 #[.slice (some ⟨blk, off, none⟩) d.size cap, .int .i64 a, .int .i64 m, .int .i64 b, .func (.func g) #[] cb] w fun e w' => e = .returned (.tuple #[]) ∧ SRow enc k w0 blk off (Rot a m b d) w' := by
  have mixed := F.mixed; have t0 := F.t0; have a0 := F.a0; have z0 := F.z0; have v0 := F.v0; have t3 := F.t3; have a3 := F.a3; have z3 := F.z3; have v3 := F.v3; have t4 := F.t4; have a4 := F.a4; have z4 := F.z4; have v4 := F.v4; have t9 := F.t9; have a9 := F.a9; have z9 := F.z9; have v9 := F.v9; have t22 := F.t22; have a22 := F.a22; have z22 := F.z22; have v22 := F.v22; have t25 := F.t25; have a25 := F.a25; have z25 := F.z25; have v25 := F.v25; have aE := F.aE; have zE := F.zE
  have eswr := F.eswr; have erot := F.erot; have esym := F.esym; have estb := F.estb; have eins := F.eins
  have S0 : Aside (SWK enc k w0 blk off d w) := S
  have HSW := Lib.hid (fun (a b n : Nat) (dk : Array α) (w : World) (hd : dk.size = d.size) (S : SWK enc k w0 blk off dk w) (h1 : a + n ≤ b) (h2 : b + n ≤ d.size) => (show Calls P 81 #[.slice (some ⟨blk, off, none⟩) d.size cap, .int .i64 a, .int .i64 b, .int .i64 n, .func (.func g) #[] cb] w fun e w' => e = .returned (.tuple #[]) ∧ SWK enc k w0 blk off (swr dk a b n) w' by
    have h := swr_call (cap := cap) (g := g) (cb := cb) F R a b n dk w (by omega) S h1 (by omega) (by omega)
    rw [hd] at h
    exact h))
  clear S
  go_enter F.frot, Try.ntmps71
  go_wp2
  go_loopg [10, 11] (b - a) (fun kx s10 s11 wr => ∃ (i j : Nat) (dk : Array α), s10 = .int .i64 i ∧ s11 = .int .i64 j ∧ 0 < i ∧ 0 < j ∧ i ≤ m ∧ m + j ≤ d.size ∧ i + j ≤ kx ∧ dk.size = d.size ∧ Aside (SWK enc k w0 blk off dk wr) ∧ Hid (∀ d', Rot (m - i) m (m + j) dk d' → Rot a m b d d'))
  case atStart => exact ⟨m - a, b - m, d, by congr 1; omega, by congr 1; omega, by omega, by omega, by omega, by omega, by omega, rfl, S0, Lib.hid (fun d' h => by rwa [show m - (m - a) = a by omega, show m + (b - m) = b by omega] at h)⟩
  case round =>
    clear S0
    obtain ⟨i, j, dk, rfl, rfl, hi0, hj0, him, hjd, hkx, hds, S1, HR⟩ := hrel
    have wi : ((m : Int) - (i : Int)) = ((m - i : Nat) : Int) := by omega
    by_cases he : i = j
    · subst he
      have hc := HSW.out (m - i) m i dk wr hds S1.out (by omega) (by omega)
      have hp := HR.out _ (rot_end (d := dk) him (by omega))
      have HP := Lib.hid hp
      clear hp
      go_wp2_with (go_at_fn 81; refine hc.mono ?_; rintro e w1 ⟨rfl, hw1⟩)
      go_end0
      exact ⟨rfl, _, HP.out, hw1⟩
    · have hne : ((i : Int) = (j : Int)) = False := by simp; omega
      have hne' : ¬ (i : Int) = (j : Int) := by omega
      by_cases hij : j < i
      · have hijz : (j : Int) < (i : Int) := by omega
        have hc := HSW.out (m - i) m j dk wr hds S1.out (by omega) (by omega)
        have wij : ((i : Int) - (j : Int)) = ((i - j : Nat) : Int) := by omega
        go_wp2_with (go_at_fn 81; refine hc.mono ?_; rintro e w1 ⟨rfl, hw1⟩)
        go_roundg (i - j + j)
        case measure => omega
        case rel => exact ⟨i - j, j, _, rfl, rfl, by omega, hj0, by omega, hjd, Nat.le_refl _, by rw [swr_size]; exact hds, hw1, Lib.hid (fun d' h => HR.out d' (rot_left hij him (by omega) h))⟩
      · have hijz : ¬ (j : Int) < (i : Int) := by omega
        have hc := HSW.out (m - i) (m + j - i) i dk wr hds S1.out (by omega) (by omega)
        have wmj : ((m : Int) + (j : Int) - (i : Int)) = ((m + j - i : Nat) : Int) := by omega
        have wij : ((j : Int) - (i : Int)) = ((j - i : Nat) : Int) := by omega
        go_wp2_with (go_at_fn 81; refine hc.mono ?_; rintro e w1 ⟨rfl, hw1⟩)
        go_roundg (i + (j - i))
        case measure => omega
        case rel => exact ⟨i, j - i, _, rfl, rfl, hi0, by omega, him, by omega, Nat.le_refl _, by rw [swr_size]; exact hds, hw1, Lib.hid (fun d' h => HR.out d' (rot_right (by omega) him (by omega) h))⟩
set_option maxHeartbeats 8000000 in
set_option maxRecDepth 1000000 in
theorem sym_one (F : SF P k) (R : RowK enc k w0 blk off d0) (eg : ∀ args w, (callFunc g args).run P w = .ok (.enter g args) w) (hcmp : CmpLays P g cb enc k cf blk off d0.size w0) (hO : SWO (ltOf cf)) (a b : Nat) (d : Array α) (w : World) (hs : d0.size = d.size) (S : SWK enc k w0 blk off d w) (hmb : a + 1 < b) (hb : b ≤ d.size) (hsz : d.size < 1099511627776) (hL : True) (hR : SortedIn (ltOf cf) (a + 1) b d) :
    Calls P 52 #[.slice (some ⟨blk, off, none⟩) d.size cap, .int .i64 a, .int .i64 ((a : Int) + 1), .int .i64 b, .func (.func g) #[] cb] w fun e w' => e = .returned (.tuple #[]) ∧ SRow enc k w0 blk off (Mrg (ltOf cf) a b d) w' := by
  have mixed := F.mixed; have t0 := F.t0; have a0 := F.a0; have z0 := F.z0; have v0 := F.v0; have t3 := F.t3; have a3 := F.a3; have z3 := F.z3; have v3 := F.v3; have t4 := F.t4; have a4 := F.a4; have z4 := F.z4; have v4 := F.v4; have t9 := F.t9; have a9 := F.a9; have z9 := F.z9; have v9 := F.v9; have t22 := F.t22; have a22 := F.a22; have z22 := F.z22; have v22 := F.v22; have t25 := F.t25; have a25 := F.a25; have z25 := F.z25; have v25 := F.v25; have aE := F.aE; have zE := F.zE
  have S0 : Aside (SWK enc k w0 blk off d w) := S
  have HC : Aside _ := hcmp
  have HL := Lib.hid hL
  have HR := Lib.hid hR
  clear S hcmp hL hR
  have he1 : ((a : Int) + 1 - (a : Int) == 1) = true := beq_iff_eq.2 (by omega)
  go_enter F.fsym, Try.ntmps52
  go_wp2
  go_loopg [10, 11, 12] (b - (a + 1)) (fun kx s10 s11 s12 wr => ∃ i j : Nat, s10 = .int .i64 i ∧ s11 = .int .i64 j ∧ j - i ≤ kx ∧ Se1 (ltOf cf) d a (a + 1) b i j ∧ Aside (SWK enc k w0 blk off d wr))
  case atStart => exact ⟨a + 1, b, by go_num, rfl, by omega, se1_start (by omega), S0⟩
  case round =>
    clear S0
    obtain ⟨i, j, rfl, rfl, hkx, hse, S1⟩ := hrel
    have b1 := hse.1
    have b2 := hse.2.1
    have b3 := hse.2.2.1
    have HSE := Lib.hid hse
    clear hse
    by_cases hlt : i < j
    · have hltz : (i : Int) < (j : Int) := by omega
      obtain ⟨h, hh⟩ : ∃ h, h = (i + j) / 2 := ⟨_, rfl⟩
      have hz : ((i : Int) + (j : Int)) / 2 = (h : Int) := by omega
      have hh1 : i ≤ h := by omega
      have hh2 : h < j := by omega
      clear hh
      cases hLT : ltOf cf d[h]! d[a]! with
      | true =>
        have eata : ((h : Int)).toNat = h := by omega
        have pata : (0 : Int) ≤ (h : Int) := by omega
        have bata : (h : Int) < (d.size : Int) := by omega
        have rata : IntKind.i64.wrap ((h : Int)) = (h : Int) := by rw [IntKind.wrap_i64]; omega
        have eatb : ((a : Int)).toNat = a := by omega
        have patb : (0 : Int) ≤ (a : Int) := by omega
        have batb : (a : Int) < (d.size : Int) := by omega
        have ratb : IntKind.i64.wrap ((a : Int)) = (a : Int) := by rw [IntKind.wrap_i64]; omega
        obtain ⟨xt, hxt⟩ : ∃ x, x = d[h]! := ⟨_, rfl⟩
        obtain ⟨yt, hyt⟩ : ∃ x, x = d[a]! := ⟨_, rfl⟩
        have lta := S1.out.ld R (by omega) P (h) (by omega)
        have ltb := S1.out.ld R (by omega) P (a) (by omega)
        rw [← hxt] at lta
        rw [← hyt] at ltb
        have hct := S1.out.cmp HC.out (by omega) xt yt
        have hvt : cf xt yt < 0 := by rw [hxt, hyt]; exact of_decide_eq_true hLT
        have hdt : decide (cf xt yt < 0) = true := decide_eq_true hvt
        clear hxt hyt
        go_wp2_with fail
        go_quiet_grown (first | (go_at_fn g; refine Calls.grown_of (hct _ _)))
        have S2 : Aside (SWK enc k w0 blk off d (grow (wr.drewN nq) osq)) := S1.out.grown nq osq
        clear lta ltb hct S1
        generalize grow (wr.drewN nq) osq = w2 at S2 ⊢
        clear nq osq
        clear eata eatb
        go_wp2
        go_roundg (j - (h + 1))
        case measure => omega
        case rel => exact ⟨h + 1, j, by go_num, rfl, Nat.le_refl _, se1_up hO HR.out HSE.out hh1 hh2 hLT, S2⟩
      | false =>
        have eata : ((h : Int)).toNat = h := by omega
        have pata : (0 : Int) ≤ (h : Int) := by omega
        have bata : (h : Int) < (d.size : Int) := by omega
        have rata : IntKind.i64.wrap ((h : Int)) = (h : Int) := by rw [IntKind.wrap_i64]; omega
        have eatb : ((a : Int)).toNat = a := by omega
        have patb : (0 : Int) ≤ (a : Int) := by omega
        have batb : (a : Int) < (d.size : Int) := by omega
        have ratb : IntKind.i64.wrap ((a : Int)) = (a : Int) := by rw [IntKind.wrap_i64]; omega
        obtain ⟨xt, hxt⟩ : ∃ x, x = d[h]! := ⟨_, rfl⟩
        obtain ⟨yt, hyt⟩ : ∃ x, x = d[a]! := ⟨_, rfl⟩
        have lta := S1.out.ld R (by omega) P (h) (by omega)
        have ltb := S1.out.ld R (by omega) P (a) (by omega)
        rw [← hxt] at lta
        rw [← hyt] at ltb
        have hct := S1.out.cmp HC.out (by omega) xt yt
        have hvt : ¬ cf xt yt < 0 := by rw [hxt, hyt]; exact of_decide_eq_false hLT
        have hdt : decide (cf xt yt < 0) = false := decide_eq_false hvt
        clear hxt hyt
        go_wp2_with fail
        go_quiet_grown (first | (go_at_fn g; refine Calls.grown_of (hct _ _)))
        have S2 : Aside (SWK enc k w0 blk off d (grow (wr.drewN nq) osq)) := S1.out.grown nq osq
        clear lta ltb hct S1
        generalize grow (wr.drewN nq) osq = w2 at S2 ⊢
        clear nq osq
        clear eata eatb
        go_wp2
        go_roundg (h - i)
        case measure => omega
        case rel => exact ⟨i, h, rfl, rfl, Nat.le_refl _, se1_dn hO HR.out HSE.out hh1 hh2 hLT, S2⟩
    · obtain rfl : i = j := by omega
      have hend := se1_end hO rfl (by omega) (by omega) HR.out HSE.out
      have HEND := Lib.hid hend
      clear hend
      obtain ⟨ip, rfl⟩ : ∃ ip, i = ip + 1 := ⟨i - 1, by omega⟩
      go_wp2
      go_loopg [13] (ip - a) (fun kx s13 wr2 => ∃ q : Nat, s13 = .int .i64 q ∧ a ≤ q ∧ q ≤ ip ∧ ip - q ≤ kx ∧ Aside (SWK enc k w0 blk off (mvU d a (q - a)) wr2))
      case atStart => exact ⟨a, rfl, Nat.le_refl _, by omega, Nat.le_refl _, by rw [Nat.sub_self]; exact S1⟩
      case round =>
        clear S1
        obtain ⟨q, rfl, haq, hqi, hkx2, S3⟩ := hrel
        by_cases hq : q < ip
        · have hqz : (q : Int) < (ip : Int) := by omega
          obtain ⟨dk, hdk⟩ : ∃ dk, dk = mvU d a (q - a) := ⟨_, rfl⟩
          have hds : dk.size = d.size := by rw [hdk, mvU_size]
          rw [← hdk] at S3
          have hnext : swp dk q (q + 1) = mvU d a (q + 1 - a) := by
            rw [show q + 1 - a = (q - a) + 1 by omega]
            show _ = swp (mvU d a (q - a)) (a + (q - a)) (a + (q - a) + 1)
            rw [← hdk, show a + (q - a) = q by omega]
          have HN := Lib.hid hnext
          clear hdk hnext
          go_wp2_with fail
          have eaea : ((q : Int)).toNat = q := by omega
          have paea : (0 : Int) ≤ (q : Int) := by omega
          have baea : (q : Int) < (d.size : Int) := by omega
          have raea : IntKind.i64.wrap ((q : Int)) = (q : Int) := by rw [IntKind.wrap_i64]; omega
          have eaeb : (((q : Int) + 1)).toNat = q + 1 := by omega
          have paeb : (0 : Int) ≤ ((q : Int) + 1) := by omega
          have baeb : ((q : Int) + 1) < (d.size : Int) := by omega
          have raeb : IntKind.i64.wrap (((q : Int) + 1)) = ((q : Int) + 1) := by rw [IntKind.wrap_i64]; omega
          have S4 : Aside (SWK enc k w0 blk off (swp dk (q) (q + 1)) ((wr.drew.setCells blk (off + (q) * k) (enc dk[q + 1]!)).setCells blk (off + (q + 1) * k) (enc dk[q]!))) := S3.out.swapped R (q) (q + 1) (by omega) (by omega)
          have lea := S3.out.ld1 R (by omega) P (q) (by omega)
          have leb := S3.out.ld1 R (by omega) P (q + 1) (by omega)
          have sea := S3.out.st1 R (by omega) P (q) (by omega) dk[q + 1]!
          have seb := S3.out.st2 R (by omega) P (q) (q + 1) (by omega) (by omega) dk[q + 1]! dk[q]!
          have nea : (enc dk[q]!).length = k := R.hk _
          have neb : (enc dk[q + 1]!).length = k := R.hk _
          generalize enc dk[q]! = cIe at S4 lea seb nea
          generalize enc dk[q + 1]! = cJe at S4 leb sea seb neb
          clear S3
          go_wp2_with fail
          go_big_region_o
          clear lea leb sea seb
          generalize (wr.drew.setCells blk (off + (q) * k) cJe).setCells blk (off + (q + 1) * k) cIe = w4 at S4 ⊢
          go_wp2
          go_roundg (ip - (q + 1))
          case measure => omega
          case rel => exact ⟨q + 1, by go_num, by omega, by omega, Nat.le_refl _, by rw [HN.out] at S4; exact S4⟩
        · obtain rfl : q = ip := by omega
          go_wp2
          (try simp only [Exit.inBlock, Exit.then]); refine bodyPost_ret (results_none rfl _ _ _) rfl ?_
          exact ⟨rfl, _, HEND.out, by simpa using S3.out⟩
set_option maxHeartbeats 8000000 in
set_option maxRecDepth 1000000 in
theorem sym_two (F : SF P k) (R : RowK enc k w0 blk off d0) (eg : ∀ args w, (callFunc g args).run P w = .ok (.enter g args) w) (hcmp : CmpLays P g cb enc k cf blk off d0.size w0) (hO : SWO (ltOf cf)) (a m : Nat) (d : Array α) (w : World) (hs : d0.size = d.size) (S : SWK enc k w0 blk off d w) (ham : a + 1 < m) (hb : m + 1 ≤ d.size) (hsz : d.size < 1099511627776) (hL : SortedIn (ltOf cf) a m d) (hR : True) :
    Calls P 52 #[.slice (some ⟨blk, off, none⟩) d.size cap, .int .i64 a, .int .i64 m, .int .i64 ((m : Int) + 1), .func (.func g) #[] cb] w fun e w' => e = .returned (.tuple #[]) ∧ SRow enc k w0 blk off (Mrg (ltOf cf) a (m + 1) d) w' := by
  have mixed := F.mixed; have t0 := F.t0; have a0 := F.a0; have z0 := F.z0; have v0 := F.v0; have t3 := F.t3; have a3 := F.a3; have z3 := F.z3; have v3 := F.v3; have t4 := F.t4; have a4 := F.a4; have z4 := F.z4; have v4 := F.v4; have t9 := F.t9; have a9 := F.a9; have z9 := F.z9; have v9 := F.v9; have t22 := F.t22; have a22 := F.a22; have z22 := F.z22; have v22 := F.v22; have t25 := F.t25; have a25 := F.a25; have z25 := F.z25; have v25 := F.v25; have aE := F.aE; have zE := F.zE
  have S0 : Aside (SWK enc k w0 blk off d w) := S
  have HC : Aside _ := hcmp
  have HL := Lib.hid hL
  have HR := Lib.hid hR
  clear S hcmp hL hR
  have hne : ((m : Int) - (a : Int) = 1) = False := by simp; omega
  have hne' : ((m : Int) - (a : Int) == 1) = false := by simp; omega
  have he1 : ((m : Int) + 1 - (m : Int) == 1) = true := beq_iff_eq.2 (by omega)
  go_enter F.fsym, Try.ntmps52
  go_wp2
  go_loopg [14, 15, 16] (m - a) (fun kx s14 s15 s16 wr => ∃ i j : Nat, s14 = .int .i64 i ∧ s15 = .int .i64 j ∧ j - i ≤ kx ∧ Se2 (ltOf cf) d a m i j ∧ Aside (SWK enc k w0 blk off d wr))
  case atStart => exact ⟨a, m, rfl, rfl, Nat.le_refl _, se2_start (by omega), S0⟩
  case round =>
    clear S0
    obtain ⟨i, j, rfl, rfl, hkx, hse, S1⟩ := hrel
    have b1 := hse.1
    have b2 := hse.2.1
    have b3 := hse.2.2.1
    have HSE := Lib.hid hse
    clear hse
    by_cases hlt : i < j
    · have hltz : (i : Int) < (j : Int) := by omega
      obtain ⟨h, hh⟩ : ∃ h, h = (i + j) / 2 := ⟨_, rfl⟩
      have hz : ((i : Int) + (j : Int)) / 2 = (h : Int) := by omega
      have hh1 : i ≤ h := by omega
      have hh2 : h < j := by omega
      clear hh
      cases hLT : ltOf cf d[m]! d[h]! with
      | false =>
        have eata : ((m : Int)).toNat = m := by omega
        have pata : (0 : Int) ≤ (m : Int) := by omega
        have bata : (m : Int) < (d.size : Int) := by omega
        have rata : IntKind.i64.wrap ((m : Int)) = (m : Int) := by rw [IntKind.wrap_i64]; omega
        have eatb : ((h : Int)).toNat = h := by omega
        have patb : (0 : Int) ≤ (h : Int) := by omega
        have batb : (h : Int) < (d.size : Int) := by omega
        have ratb : IntKind.i64.wrap ((h : Int)) = (h : Int) := by rw [IntKind.wrap_i64]; omega
        obtain ⟨xt, hxt⟩ : ∃ x, x = d[m]! := ⟨_, rfl⟩
        obtain ⟨yt, hyt⟩ : ∃ x, x = d[h]! := ⟨_, rfl⟩
        have lta := S1.out.ld R (by omega) P (m) (by omega)
        have ltb := S1.out.ld R (by omega) P (h) (by omega)
        rw [← hxt] at lta
        rw [← hyt] at ltb
        have hct := S1.out.cmp HC.out (by omega) xt yt
        have hvt : ¬ cf xt yt < 0 := by rw [hxt, hyt]; exact of_decide_eq_false hLT
        have hdt : decide (cf xt yt < 0) = false := decide_eq_false hvt
        clear hxt hyt
        go_wp2_with fail
        go_quiet_grown (first | (go_at_fn g; refine Calls.grown_of (hct _ _)))
        have S2 : Aside (SWK enc k w0 blk off d (grow (wr.drewN nq) osq)) := S1.out.grown nq osq
        clear lta ltb hct S1
        generalize grow (wr.drewN nq) osq = w2 at S2 ⊢
        clear nq osq
        clear eata eatb
        go_wp2
        go_roundg (j - (h + 1))
        case measure => omega
        case rel => exact ⟨h + 1, j, by go_num, rfl, Nat.le_refl _, se2_up hO HL.out HSE.out hh1 hh2 hLT, S2⟩
      | true =>
        have eata : ((m : Int)).toNat = m := by omega
        have pata : (0 : Int) ≤ (m : Int) := by omega
        have bata : (m : Int) < (d.size : Int) := by omega
        have rata : IntKind.i64.wrap ((m : Int)) = (m : Int) := by rw [IntKind.wrap_i64]; omega
        have eatb : ((h : Int)).toNat = h := by omega
        have patb : (0 : Int) ≤ (h : Int) := by omega
        have batb : (h : Int) < (d.size : Int) := by omega
        have ratb : IntKind.i64.wrap ((h : Int)) = (h : Int) := by rw [IntKind.wrap_i64]; omega
        obtain ⟨xt, hxt⟩ : ∃ x, x = d[m]! := ⟨_, rfl⟩
        obtain ⟨yt, hyt⟩ : ∃ x, x = d[h]! := ⟨_, rfl⟩
        have lta := S1.out.ld R (by omega) P (m) (by omega)
        have ltb := S1.out.ld R (by omega) P (h) (by omega)
        rw [← hxt] at lta
        rw [← hyt] at ltb
        have hct := S1.out.cmp HC.out (by omega) xt yt
        have hvt : cf xt yt < 0 := by rw [hxt, hyt]; exact of_decide_eq_true hLT
        have hdt : decide (cf xt yt < 0) = true := decide_eq_true hvt
        clear hxt hyt
        go_wp2_with fail
        go_quiet_grown (first | (go_at_fn g; refine Calls.grown_of (hct _ _)))
        have S2 : Aside (SWK enc k w0 blk off d (grow (wr.drewN nq) osq)) := S1.out.grown nq osq
        clear lta ltb hct S1
        generalize grow (wr.drewN nq) osq = w2 at S2 ⊢
        clear nq osq
        clear eata eatb
        go_wp2
        go_roundg (h - i)
        case measure => omega
        case rel => exact ⟨i, h, rfl, rfl, Nat.le_refl _, se2_dn hO HL.out HSE.out hh1 hh2 hLT, S2⟩
    · obtain rfl : i = j := by omega
      have hend := se2_end hO rfl hb HL.out HSE.out
      have HEND := Lib.hid hend
      clear hend
      go_wp2
      go_loopg [17] (m - i) (fun kx s17 wr2 => ∃ q : Nat, s17 = .int .i64 q ∧ i ≤ q ∧ q ≤ m ∧ q - i ≤ kx ∧ Aside (SWK enc k w0 blk off (mvD d m (m - q)) wr2))
      case atStart => exact ⟨m, rfl, b3, Nat.le_refl _, Nat.le_refl _, by rw [Nat.sub_self]; exact S1⟩
      case round =>
        clear S1
        obtain ⟨q, rfl, hiq, hqm, hkx2, S3⟩ := hrel
        by_cases hq : i < q
        · obtain ⟨qp, rfl⟩ : ∃ qp, q = qp + 1 := ⟨q - 1, by omega⟩
          have hqz : (i : Int) < (qp : Int) + 1 := by omega
          obtain ⟨dk, hdk⟩ : ∃ dk, dk = mvD d m (m - (qp + 1)) := ⟨_, rfl⟩
          have hds : dk.size = d.size := by rw [hdk, mvD_size]
          rw [← hdk] at S3
          have hnext : swp dk (qp + 1) qp = mvD d m (m - qp) := by
            rw [show m - qp = (m - (qp + 1)) + 1 by omega]
            show _ = swp (mvD d m (m - (qp + 1))) (m - (m - (qp + 1))) (m - (m - (qp + 1)) - 1)
            rw [← hdk, show m - (m - (qp + 1)) = qp + 1 by omega]
            rfl
          have HN := Lib.hid hnext
          clear hdk hnext
          go_wp2_with fail
          have eaea : (((qp : Int) + 1)).toNat = qp + 1 := by omega
          have paea : (0 : Int) ≤ ((qp : Int) + 1) := by omega
          have baea : ((qp : Int) + 1) < (d.size : Int) := by omega
          have raea : IntKind.i64.wrap (((qp : Int) + 1)) = ((qp : Int) + 1) := by rw [IntKind.wrap_i64]; omega
          have eaeb : ((qp : Int)).toNat = qp := by omega
          have paeb : (0 : Int) ≤ (qp : Int) := by omega
          have baeb : (qp : Int) < (d.size : Int) := by omega
          have raeb : IntKind.i64.wrap ((qp : Int)) = (qp : Int) := by rw [IntKind.wrap_i64]; omega
          have S4 : Aside (SWK enc k w0 blk off (swp dk (qp + 1) (qp)) ((wr.drew.setCells blk (off + (qp + 1) * k) (enc dk[qp]!)).setCells blk (off + (qp) * k) (enc dk[qp + 1]!))) := S3.out.swapped R (qp + 1) (qp) (by omega) (by omega)
          have lea := S3.out.ld1 R (by omega) P (qp + 1) (by omega)
          have leb := S3.out.ld1 R (by omega) P (qp) (by omega)
          have sea := S3.out.st1 R (by omega) P (qp + 1) (by omega) dk[qp]!
          have seb := S3.out.st2 R (by omega) P (qp + 1) (qp) (by omega) (by omega) dk[qp]! dk[qp + 1]!
          have nea : (enc dk[qp + 1]!).length = k := R.hk _
          have neb : (enc dk[qp]!).length = k := R.hk _
          generalize enc dk[qp + 1]! = cIe at S4 lea seb nea
          generalize enc dk[qp]! = cJe at S4 leb sea seb neb
          clear S3
          go_wp2_with fail
          go_big_region_o
          clear lea leb sea seb
          generalize (wr.drew.setCells blk (off + (qp + 1) * k) cJe).setCells blk (off + (qp) * k) cIe = w4 at S4 ⊢
          go_wp2
          go_roundg (qp - i)
          case measure => omega
          case rel => exact ⟨qp, by first | rfl | go_num | (congr 1; omega), by omega, by omega, Nat.le_refl _, by rw [HN.out] at S4; exact S4⟩
        · obtain rfl : q = i := by omega
          go_wp2
          (try simp only [Exit.inBlock, Exit.then]); refine bodyPost_ret (results_none rfl _ _ _) rfl ?_
          exact ⟨rfl, _, HEND.out, S3.out⟩
end
end Go.Proofs.Ytdofpkdemmngeaa
namespace Go.Proofs.Ytdofpkdemmngeaa
open Go Go.Shelf Go.RowKit Go.Lib Go.Sort lib
set_option linter.unusedVariables false
set_option linter.unusedSimpArgs false
section
variable {P : Program} {α : Type} [Inhabited α] {enc : α → List Value} {k : Nat} {cf : α → α → Int} {g : Nat} {cb : Array Value} {blk off cap : Nat} {d0 : Array α} {w0 : World}
set_option maxHeartbeats 16000000 in
set_option maxRecDepth 1000000 in
theorem sym_call (F : SF P k) (R : RowK enc k w0 blk off d0) (eg : ∀ args w, (callFunc g args).run P w = .ok (.enter g args) w) (hcmp : CmpLays P g cb enc k cf blk off d0.size w0) (hO : SWO (ltOf cf)) : ∀ (N a m b : Nat) (d : Array α) (w : World), b - a ≤ N → d0.size = d.size → SWK enc k w0 blk off d w → a < m → m < b → b ≤ d.size → d.size < 1099511627776 → SortedIn (ltOf cf) a m d → SortedIn (ltOf cf) m b d →
    Calls P 52 #[.slice (some ⟨blk, off, none⟩) d.size cap, .int .i64 a, .int .i64 m, .int .i64 b, .func (.func g) #[] cb] w fun e w' => e = .returned (.tuple #[]) ∧ SRow enc k w0 blk off (Mrg (ltOf cf) a b d) w' := by
  have mixed := F.mixed; have t0 := F.t0; have a0 := F.a0; have z0 := F.z0; have v0 := F.v0; have t3 := F.t3; have a3 := F.a3; have z3 := F.z3; have v3 := F.v3; have t4 := F.t4; have a4 := F.a4; have z4 := F.z4; have v4 := F.v4; have t9 := F.t9; have a9 := F.a9; have z9 := F.z9; have v9 := F.v9; have t22 := F.t22; have a22 := F.a22; have z22 := F.z22; have v22 := F.v22; have t25 := F.t25; have a25 := F.a25; have z25 := F.z25; have v25 := F.v25; have aE := F.aE; have zE := F.zE
  have eswr := F.eswr; have erot := F.erot; have esym := F.esym; have estb := F.estb; have eins := F.eins
  have REG := Lib.hid eg
  intro N
  induction N with
  | zero => intro a m b d w h; intros; omega
  | succ N ih =>
    intro a m b d w hN hs S ham hmb hb hsz hL hR
    by_cases h1 : m = a + 1
    · subst h1
      exact sym_one (g := g) F R eg hcmp hO a b d w hs S hmb hb hsz trivial hR
    by_cases h2 : b = m + 1
    · subst h2
      exact sym_two (g := g) F R eg hcmp hO a m d w hs S (by omega) hb hsz hL trivial
    obtain ⟨mid, hmid⟩ : ∃ mid, mid = (a + b) / 2 := ⟨_, rfl⟩
    have hmz : ((a : Int) + (b : Int)) / 2 = (mid : Int) := by omega
    obtain ⟨nn, hnn⟩ : ∃ nn, nn = mid + m := ⟨_, rfl⟩
    have hnz : ((mid : Int) + (m : Int)) = (nn : Int) := by omega
    obtain ⟨pp, hpp⟩ : ∃ pp, pp = nn - 1 := ⟨_, rfl⟩
    have hpz : ((nn : Int) - 1) = (pp : Int) := by omega
    have hne : ((m : Int) - (a : Int) = 1) = False := by simp; omega
    have hne' : ((m : Int) - (a : Int) == 1) = false := by simp; omega
    have hne2 : ((b : Int) - (m : Int) = 1) = False := by simp; omega
    have hne2' : ((b : Int) - (m : Int) == 1) = false := by simp; omega
    have S0 : Aside (SWK enc k w0 blk off d w) := S
    have HC : Aside _ := hcmp
    have HL := Lib.hid hL
    have HR := Lib.hid hR
    have IH := Lib.hid ih
    have HM := Lib.hid hmid
    have HNN := Lib.hid hnn
    have HPP := Lib.hid hpp
    have bm1 : a ≤ mid := by omega
    have bm2 : mid < b := by omega
    have bn1 : nn < 2199023255552 := by omega
    have bp1 : pp + 1 = nn := by omega
    clear S hcmp hL hR ih hmid hnn hpp
    go_enter F.fsym, Try.ntmps52
    go_upto_if 140 with fail
    go_cut [20, 21] (fun s20 s21 wx => ∃ lo hi : Nat, s20 = .int .i64 lo ∧ s21 = .int .i64 hi ∧ SeB a m b mid lo hi ∧ wx = w)
    case first =>
      as_aux_lemma =>
      by_cases hm : mid < m
      · have hmz2 : (mid : Int) < (m : Int) := by omega
        go_wp2_with fail
        go_meet
        exact ⟨nn - b, mid, by have := HNN.out; congr 1; omega, rfl, .inl ⟨hm, by have := HNN.out; omega, rfl⟩, rfl⟩
      · have hmz2 : ¬ (mid : Int) < (m : Int) := by omega
        go_wp2_with fail
        go_meet
        exact ⟨a, m, rfl, rfl, .inr ⟨by omega, rfl, rfl⟩, rfl⟩
    case rest =>
    as_aux_lemma =>
    obtain ⟨lo, hi, rfl, rfl, hB, hwc⟩ := hcut
    subst hwc
    have HB := Lib.hid hB
    have hlh : lo ≤ hi := by have := HM.out; unfold SeB at hB; omega
    have hbd := fun s h1 h2 => seB_bounds (s := s) hB ham hmb HM.out h1 h2
    have HBD := Lib.hid hbd
    clear hB hbd
    go_wp2_with fail
    go_loopg [20, 21, 23] (hi - lo) (fun kx s20 s21 s23 wr => ∃ s r : Nat, s20 = .int .i64 s ∧ s21 = .int .i64 r ∧ r - s ≤ kx ∧ Se3 (ltOf cf) d lo hi pp s r ∧ Aside (SWK enc k w0 blk off d wr))
    case atStart => exact ⟨lo, hi, rfl, rfl, Nat.le_refl _, se3_start hlh, S0⟩
    case round =>
      clear S0
      obtain ⟨s, r, rfl, rfl, hkx, hse, S1⟩ := hrel
      have b1 := hse.1
      have b2 := hse.2.1
      have b3 := hse.2.2.1
      have HSE := Lib.hid hse
      clear hse
      by_cases hlt : s < r
      · have hltz : (s : Int) < (r : Int) := by omega
        obtain ⟨c, hc⟩ : ∃ c, c = (s + r) / 2 := ⟨_, rfl⟩
        have hz : ((s : Int) + (r : Int)) / 2 = (c : Int) := by omega
        have hc1 : s ≤ c := by omega
        have hc2 : c < r := by omega
        clear hc
        obtain ⟨q1, q2, q3, q4, q5, q6, q7, q8⟩ := HBD.out (c + 1) (by omega) (by omega)
        obtain ⟨_, _, _, q9, _⟩ := HBD.out c (by omega) (by omega)
        obtain ⟨pc, hpc⟩ : ∃ pc, pc = pp - c := ⟨_, rfl⟩
        have hpcz : ((pp : Int) - (c : Int)) = (pc : Int) := by have := HNN.out; omega
        have hpcb : pc < d.size := by have := HNN.out; omega
        have HPC := Lib.hid hpc
        clear hpc
        cases hLT : ltOf cf d[pc]! d[c]! with
        | false =>
          as_aux_lemma =>
          have eata : ((pc : Int)).toNat = pc := by omega
          have pata : (0 : Int) ≤ (pc : Int) := by omega
          have bata : (pc : Int) < (d.size : Int) := by omega
          have rata : IntKind.i64.wrap ((pc : Int)) = (pc : Int) := by rw [IntKind.wrap_i64]; omega
          have eatb : ((c : Int)).toNat = c := by omega
          have patb : (0 : Int) ≤ (c : Int) := by omega
          have batb : (c : Int) < (d.size : Int) := by omega
          have ratb : IntKind.i64.wrap ((c : Int)) = (c : Int) := by rw [IntKind.wrap_i64]; omega
          obtain ⟨xt, hxt⟩ : ∃ x, x = d[pc]! := ⟨_, rfl⟩
          obtain ⟨yt, hyt⟩ : ∃ x, x = d[c]! := ⟨_, rfl⟩
          have lta := S1.out.ld R (by omega) P (pc) (by omega)
          have ltb := S1.out.ld R (by omega) P (c) (by omega)
          rw [← hxt] at lta
          rw [← hyt] at ltb
          have hct := S1.out.cmp HC.out (by omega) xt yt
          have hvt : ¬ cf xt yt < 0 := by rw [hxt, hyt]; exact of_decide_eq_false hLT
          have hdt : decide (cf xt yt < 0) = false := decide_eq_false hvt
          clear hxt hyt
          go_wp2_with fail
          go_quiet_grown (first | (go_at_fn g; refine Calls.grown_of (hct _ _)))
          have S2 : Aside (SWK enc k w0 blk off d (grow (wr.drewN nq) osq)) := S1.out.grown nq osq
          clear lta ltb hct S1
          generalize grow (wr.drewN nq) osq = w2 at S2 ⊢
          clear nq osq
          clear eata eatb
          go_wp2
          go_roundg (r - (c + 1))
          case measure => omega
          case rel => exact ⟨c + 1, r, by go_num, rfl, Nat.le_refl _, se3_up HSE.out hc1 hc2 (by rw [← HPC.out]; exact hLT), S2⟩
        | true =>
          as_aux_lemma =>
          have eata : ((pc : Int)).toNat = pc := by omega
          have pata : (0 : Int) ≤ (pc : Int) := by omega
          have bata : (pc : Int) < (d.size : Int) := by omega
          have rata : IntKind.i64.wrap ((pc : Int)) = (pc : Int) := by rw [IntKind.wrap_i64]; omega
          have eatb : ((c : Int)).toNat = c := by omega
          have patb : (0 : Int) ≤ (c : Int) := by omega
          have batb : (c : Int) < (d.size : Int) := by omega
          have ratb : IntKind.i64.wrap ((c : Int)) = (c : Int) := by rw [IntKind.wrap_i64]; omega
          obtain ⟨xt, hxt⟩ : ∃ x, x = d[pc]! := ⟨_, rfl⟩
          obtain ⟨yt, hyt⟩ : ∃ x, x = d[c]! := ⟨_, rfl⟩
          have lta := S1.out.ld R (by omega) P (pc) (by omega)
          have ltb := S1.out.ld R (by omega) P (c) (by omega)
          rw [← hxt] at lta
          rw [← hyt] at ltb
          have hct := S1.out.cmp HC.out (by omega) xt yt
          have hvt : cf xt yt < 0 := by rw [hxt, hyt]; exact of_decide_eq_true hLT
          have hdt : decide (cf xt yt < 0) = true := decide_eq_true hvt
          clear hxt hyt
          go_wp2_with fail
          go_quiet_grown (first | (go_at_fn g; refine Calls.grown_of (hct _ _)))
          have S2 : Aside (SWK enc k w0 blk off d (grow (wr.drewN nq) osq)) := S1.out.grown nq osq
          clear lta ltb hct S1
          generalize grow (wr.drewN nq) osq = w2 at S2 ⊢
          clear nq osq
          clear eata eatb
          go_wp2
          go_roundg (c - s)
          case measure => omega
          case rel => exact ⟨s, c, rfl, rfl, Nat.le_refl _, se3_dn HSE.out hc1 hc2 (by rw [← HPC.out]; exact hLT), S2⟩
      · obtain rfl : s = r := by omega
        obtain ⟨q1, q2, q3, q4, q5, q6, q7, q8⟩ := HBD.out s b1 b3
        obtain ⟨ee, hee⟩ : ∃ ee, ee = m + mid - s := ⟨_, rfl⟩
        have heez : ((nn : Int) - (s : Int)) = (ee : Int) := by have := HNN.out; omega
        rw [← hee] at q4 q5 q6
        have HEE := Lib.hid hee
        have hcross : ∀ d1, Rot s m ee d d1 → SortedIn (ltOf cf) a s d1 ∧ SortedIn (ltOf cf) s mid d1 ∧ SortedIn (ltOf cf) mid ee d1 ∧ SortedIn (ltOf cf) ee b d1 ∧ ∀ p q, a ≤ p → p < mid → mid ≤ q → q < b → ltOf cf d1[q]! d1[p]! = false := fun d1 h => by
          have h3 := HSE.out
          have h4 : pp = mid + m - 1 := by have := HNN.out; omega
          rw [h4] at h3
          rw [hee] at h ⊢
          exact rot_cross hO HB.out ham hmb HM.out HL.out HR.out h3 h
        have HX := Lib.hid hcross
        clear hee hcross
        have hrot : s < m → m < ee → Calls P 71 #[.slice (some ⟨blk, off, none⟩) d.size cap, .int .i64 s, .int .i64 m, .int .i64 ee, .func (.func g) #[] cb] wr fun e w' => e = .returned (.tuple #[]) ∧ SRow enc k w0 blk off (Rot s m ee d) w' := fun h1 h2 => rot_call F R s m ee d wr hs S1.out h1 h2 (by omega) hsz
        have HROT := Lib.hid hrot
        clear hrot
        go_upto_region 39 with fail
        go_cut [185] (fun sv wx => ∃ vb : Bool, sv = .bool vb ∧ (vb = true ↔ (s < m ∧ m < ee)) ∧ wx = wr)
        case first =>
          as_aux_lemma =>
          by_cases g1 : s < m
          · have g1z : (s : Int) < (m : Int) := by omega
            by_cases g2 : m < ee
            · have g2z : (m : Int) < (ee : Int) := by omega
              go_wp2_with fail
              go_meet
              exact ⟨true, rfl, by simp [g1, g2], rfl⟩
            · have g2z : ¬ (m : Int) < (ee : Int) := by omega
              go_wp2_with fail
              go_meet
              exact ⟨false, rfl, by simp [g2], rfl⟩
          · have g1z : ¬ (s : Int) < (m : Int) := by omega
            go_wp2_with fail
            go_meet
            exact ⟨false, rfl, by simp [g1], rfl⟩
        case rest =>
        as_aux_lemma =>
        obtain ⟨vb, rfl, hvb, hwc⟩ := hcut
        subst hwc
        have HVB := Lib.hid hvb
        clear hvb
        go_upto_if 185 with fail
        go_cut [] (fun wx => SRow enc k w0 blk off (Rot s m ee d) wx)
        case first =>
          as_aux_lemma =>
          cases vb with
          | true =>
            have hc := HROT.out (HVB.out.1 rfl).1 (HVB.out.1 rfl).2
            go_wp2_with (go_at_fn 71; refine hc.mono ?_; rintro e w1 ⟨rfl, hw1⟩)
            go_meet
            case rel => exact hw1
          | false =>
            have hno : ¬ (s < m ∧ m < ee) := fun h => by have := HVB.out.2 h; cases this
            go_wp2_with fail
            go_meet
            case rel => exact ⟨d, rot_none (by omega), S1.out⟩
        case rest =>
        as_aux_lemma =>
        obtain ⟨d1, hR1, S2⟩ := hcut
        obtain ⟨x1, x2, x3, x4, x5⟩ := HX.out d1 hR1
        have hd1 : d1.size = d.size := hR1.1.1
        have HD1 := Lib.hid hd1
        have HR1 := Lib.hid hR1.1
        have X5 := Lib.hid x5
        have X3 := Lib.hid x3
        have X4 := Lib.hid x4
        have X12 := Lib.hid (And.intro x1 x2)
        have SA : Aside (SWK enc k w0 blk off d1 wc) := S2
        have hc1 : a < s → s < mid → Calls P 52 #[.slice (some ⟨blk, off, none⟩) d.size cap, .int .i64 a, .int .i64 s, .int .i64 mid, .func (.func g) #[] cb] wc fun e w' => e = .returned (.tuple #[]) ∧ SRow enc k w0 blk off (Mrg (ltOf cf) a mid d1) w' := fun h1 h2 => by
          have h := IH.out a s mid d1 wc (by omega) (by rw [HD1.out]; exact hs) SA.out h1 h2 (by rw [HD1.out]; omega) (by rw [HD1.out]; exact hsz) X12.out.1 X12.out.2
          rwa [HD1.out] at h
        have HC1 := Lib.hid hc1
        clear hR1 x1 x2 x3 x4 x5 hd1 S2 hc1 HROT HX
        go_upto_region 41 with fail
        go_cut [199] (fun sv wx => ∃ vb : Bool, sv = .bool vb ∧ (vb = true ↔ (a < s ∧ s < mid)) ∧ wx = wc)
        case first =>
          as_aux_lemma =>
          by_cases g1 : a < s
          · have g1z : (a : Int) < (s : Int) := by omega
            by_cases g2 : s < mid
            · have g2z : (s : Int) < (mid : Int) := by omega
              go_wp2_with fail
              go_meet
              exact ⟨true, rfl, by simp [g1, g2], rfl⟩
            · have g2z : ¬ (s : Int) < (mid : Int) := by omega
              go_wp2_with fail
              go_meet
              exact ⟨false, rfl, by simp [g2], rfl⟩
          · have g1z : ¬ (a : Int) < (s : Int) := by omega
            go_wp2_with fail
            go_meet
            exact ⟨false, rfl, by simp [g1], rfl⟩
        case rest =>
        as_aux_lemma =>
        obtain ⟨vb, rfl, hvb, hwc⟩ := hcut
        subst hwc
        have HVB := Lib.hid hvb
        clear hvb
        go_upto_if 199 with fail
        go_cut [] (fun wx => SRow enc k w0 blk off (Mrg (ltOf cf) a mid d1) wx)
        case first =>
          as_aux_lemma =>
          cases vb with
          | true =>
            have hc := HC1.out (HVB.out.1 rfl).1 (HVB.out.1 rfl).2
            go_wp2_with (go_at_fn 52; refine hc.mono ?_; rintro e w1 ⟨rfl, hw1⟩)
            go_meet
            case rel => exact hw1
          | false =>
            have hno : ¬ (a < s ∧ s < mid) := fun h => by have := HVB.out.2 h; cases this
            go_wp2_with fail
            go_meet
            case rel => exact ⟨d1, mrg_none (one_run X12.out.1 X12.out.2 hno (by omega) (by omega)), SA.out⟩
        case rest =>
        as_aux_lemma =>
        obtain ⟨d2, hM2, S3⟩ := hcut
        have hd2 : d2.size = d.size := by rw [hM2.1.1]; exact HD1.out
        have HD2 := Lib.hid hd2
        have HM2 := Lib.hid hM2
        have y3 : SortedIn (ltOf cf) mid ee d2 := sorted_out X3.out hM2.1 (.inr (Nat.le_refl _))
        have y4 : SortedIn (ltOf cf) ee b d2 := sorted_out X4.out hM2.1 (.inr (by omega))
        have Y34 := Lib.hid (And.intro y3 y4)
        have SB : Aside (SWK enc k w0 blk off d2 wc) := S3
        have hc2 : mid < ee → ee < b → Calls P 52 #[.slice (some ⟨blk, off, none⟩) d.size cap, .int .i64 mid, .int .i64 ee, .int .i64 b, .func (.func g) #[] cb] wc fun e w' => e = .returned (.tuple #[]) ∧ SRow enc k w0 blk off (Mrg (ltOf cf) mid b d2) w' := fun h1 h2 => by
          have h := IH.out mid ee b d2 wc (by omega) (by rw [HD2.out]; exact hs) SB.out h1 h2 (by rw [HD2.out]; omega) (by rw [HD2.out]; exact hsz) Y34.out.1 Y34.out.2
          rwa [HD2.out] at h
        have HC2 := Lib.hid hc2
        have hfin : ∀ d3, Mrg (ltOf cf) mid b d2 d3 → Mrg (ltOf cf) a b d d3 := fun d3 h => mrg_both hO HD1.out.symm bm1 (by omega) hb (by omega) (by omega) HR1.out HM2.out h X5.out
        have HF := Lib.hid hfin
        clear hM2 y3 y4 hd2 S3 hc2 hfin HC1
        by_cases g1 : mid < ee
        · have g1z : (mid : Int) < (ee : Int) := by omega
          by_cases g2 : ee < b
          · have g2z : (ee : Int) < (b : Int) := by omega
            have hc := HC2.out g1 g2
            go_wp2_with (go_at_fn 52; refine hc.mono ?_; rintro e w1 ⟨rfl, d3, hM3, hw1⟩)
            go_end0
            exact ⟨rfl, d3, HF.out d3 hM3, hw1⟩
          · have g2z : ¬ (ee : Int) < (b : Int) := by omega
            go_wp2_with fail
            go_end0
            exact ⟨rfl, d2, HF.out d2 (mrg_none (one_run Y34.out.1 Y34.out.2 (by omega) (by omega) (by omega))), SB.out⟩
        · have g1z : ¬ (mid : Int) < (ee : Int) := by omega
          go_wp2_with fail
          go_end0
          exact ⟨rfl, d2, HF.out d2 (mrg_none (one_run Y34.out.1 Y34.out.2 (by omega) (by omega) (by omega))), SB.out⟩
end
end Go.Proofs.Ytdofpkdemmngeaa
namespace Go.Proofs.Ytdofpkdemmngeaa
open Go Go.Shelf Go.RowKit Go.Lib Go.Sort lib
set_option linter.unusedVariables false
set_option linter.unusedSimpArgs false
section
variable {P : Program} {α : Type} [Inhabited α] {enc : α → List Value} {k : Nat} {cf : α → α → Int} {g : Nat} {cb : Array Value} {blk off cap : Nat} {d0 : Array α} {w0 : World}
set_option maxHeartbeats 16000000 in
set_option maxRecDepth 1000000 in
theorem stb_call (F : SF P k) (R : RowK enc k w0 blk off d0) (eg : ∀ args w, (callFunc g args).run P w = .ok (.enter g args) w) (hcmp : CmpLays P g cb enc k cf blk off d0.size w0) (hO : SWO (ltOf cf)) (d : Array α) (w : World) (hs : d0.size = d.size) (S : SWK enc k w0 blk off d w) (hsz : d.size < 1099511627776) (hins : ∀ (a b : Nat) (dk : Array α) (w : World), dk.size = d.size → SWK enc k w0 blk off dk w → a ≤ b → b ≤ d.size → Calls P 51 #[.slice (some ⟨blk, off, none⟩) d.size cap, .int .i64 a, .int .i64 b, .func (.func g) #[] cb] w fun e w' => e = .returned (.tuple #[]) ∧ SRow enc k w0 blk off (Mrg (ltOf cf) a b dk) w') :
    Calls P 39 #[.slice (some ⟨blk, off, none⟩) d.size cap, .int .i64 (d.size : Nat), .func (.func g) #[] cb] w fun e w' => e = .returned (.tuple #[]) ∧ SRow enc k w0 blk off (Mrg (ltOf cf) 0 d.size d) w' := by
  have mixed := F.mixed; have t0 := F.t0; have a0 := F.a0; have z0 := F.z0; have v0 := F.v0; have t3 := F.t3; have a3 := F.a3; have z3 := F.z3; have v3 := F.v3; have t4 := F.t4; have a4 := F.a4; have z4 := F.z4; have v4 := F.v4; have t9 := F.t9; have a9 := F.a9; have z9 := F.z9; have v9 := F.v9; have t22 := F.t22; have a22 := F.a22; have z22 := F.z22; have v22 := F.v22; have t25 := F.t25; have a25 := F.a25; have z25 := F.z25; have v25 := F.v25; have aE := F.aE; have zE := F.zE
  have eswr := F.eswr; have erot := F.erot; have esym := F.esym; have estb := F.estb; have eins := F.eins
  have S0 : Aside (SWK enc k w0 blk off d w) := S
  have HI := Lib.hid hins
  have HY := Lib.hid (fun (a m b : Nat) (dk : Array α) (w : World) (hd : dk.size = d.size) (S : SWK enc k w0 blk off dk w) (h1 : a < m) (h2 : m < b) (h3 : b ≤ d.size) (h4 : SortedIn (ltOf cf) a m dk) (h5 : SortedIn (ltOf cf) m b dk) => (show Calls P 52 #[.slice (some ⟨blk, off, none⟩) d.size cap, .int .i64 a, .int .i64 m, .int .i64 b, .func (.func g) #[] cb] w fun e w' => e = .returned (.tuple #[]) ∧ SRow enc k w0 blk off (Mrg (ltOf cf) a b dk) w' by
    have h := sym_call (cap := cap) (g := g) (cb := cb) F R eg hcmp hO (b - a) a m b dk w (Nat.le_refl _) (by omega) S h1 h2 (by omega) (by omega) h4 h5
    rw [hd] at h
    exact h))
  have hnz : d.size < 1099511627776 := hsz
  have HMON := Lib.hid (fun (a b : Nat) (x y : Array α) (h1 : x.size = d.size) (h2 : b ≤ d.size) (h : PermIn a b x y) => permIn_mono x y a b 0 d.size (Nat.zero_le _) h2 (by omega) h)
  have HTR := Lib.hid (fun (x y z : Array α) (h1 : PermIn 0 d.size x y) (h2 : PermIn 0 d.size y z) => permIn_trans x y z 0 d.size h1 h2)
  have HRF := Lib.hid (permIn_refl d 0 d.size)
  clear S hins hcmp hs hsz
  generalize hgd : d.size = n at *
  have HGD := Lib.hid hgd
  clear hgd
  go_enter F.fstb, Try.ntmps39
  go_wp2
  go_loopg [7, 8] n (fun kx s7 s8 wr => ∃ (a : Nat) (dk : Array α), s7 = .int .i64 a ∧ s8 = .int .i64 ((a : Int) + 20) ∧ a ≤ n ∧ n - a ≤ kx ∧ Hid (20 ∣ a ∧ dk.size = n ∧ PermIn 0 n d dk ∧ Done (ltOf cf) 20 a dk ∧ SWK enc k w0 blk off dk wr))
  case atStart => exact ⟨0, d, rfl, rfl, Nat.zero_le _, Nat.le_refl _, Lib.hid ⟨⟨0, rfl⟩, HGD.out, HRF.out, done_none (by omega), S0.out⟩⟩
  case round =>
    clear S0
    obtain ⟨a, dk, rfl, rfl, han, hkx, H⟩ := hrel
    by_cases hlt : a + 20 ≤ n
    · have hltz : (a : Int) + 20 ≤ (n : Int) := by omega
      have hc := HI.out a (a + 20) dk wr H.out.2.1 H.out.2.2.2.2 (by omega) hlt
      have ez : (((a + 20 : Nat) : Int)) = (a : Int) + 20 := by omega
      rw [ez] at hc
      clear ez
      go_wp2_with (go_at_fn 51; refine hc.mono ?_; rintro e w1 ⟨rfl, hw1⟩)
      obtain ⟨d1, hm, hS⟩ := hw1
      go_roundg (n - (a + 20))
      case measure => omega
      case rel =>
        obtain ⟨g1, g2, g3, g4, g5⟩ := H.out
        exact ⟨a + 20, d1, by go_num, by go_num, hlt, Nat.le_refl _, Lib.hid ⟨by omega, by rw [hm.1.1]; exact g2, HTR.out _ _ _ g3 (HMON.out _ _ _ _ g2 hlt hm.1), done_step g4 g1 hm.1 hm.2, hS⟩⟩
    · have hltz : ¬ (a : Int) + 20 ≤ (n : Int) := by omega
      have hc := HI.out a n dk wr H.out.2.1 H.out.2.2.2.2 han (Nat.le_refl _)
      go_upto_region 7 with (go_at_fn 51; refine hc.mono ?_; rintro e w1 ⟨rfl, hw1⟩)
      obtain ⟨d1, hm, hS⟩ := hw1
      have hstart : Hid (d1.size = n ∧ PermIn 0 n d d1 ∧ Fine (ltOf cf) 20 0 n d1 ∧ SWK enc k w0 blk off d1 w1) := by
        obtain ⟨g1, g2, g3, g4, g5⟩ := H.out
        exact ⟨by rw [hm.1.1]; exact g2, HTR.out _ _ _ g3 (HMON.out _ _ _ _ g2 (Nat.le_refl _) hm.1), done_last g4 g1 han (by omega) hm.1 hm.2, hS⟩
      clear hm hS H hc
      go_wp2_with fail
      go_loopg [6, 7, 8, 9] n (fun kx s6 s7 s8 s9 wr => ∃ (z : Nat) (dk : Array α), s6 = .int .i64 z ∧ 20 ≤ z ∧ z < 2199023255552 ∧ n - z ≤ kx ∧ Hid (dk.size = n ∧ PermIn 0 n d dk ∧ Fine (ltOf cf) z 0 n dk ∧ SWK enc k w0 blk off dk wr))
      case atStart => exact ⟨20, d1, rfl, Nat.le_refl _, by omega, by omega, hstart⟩
      case round =>
        clear hstart
        obtain ⟨z, dk, rfl, hz20, hzb, hkx2, H⟩ := hrel
        by_cases hzn : z < n
        · have hznz : (z : Int) < (n : Int) := by omega
          go_wp2_with fail
          go_loopg [7, 8] n (fun kx s7 s8 wr => ∃ (a : Nat) (dk : Array α), s7 = .int .i64 a ∧ s8 = .int .i64 ((a : Int) + 2 * (z : Int)) ∧ a ≤ n ∧ n - a ≤ kx ∧ Hid (2 * z ∣ a ∧ dk.size = n ∧ PermIn 0 n d dk ∧ Done (ltOf cf) (2 * z) a dk ∧ Fine (ltOf cf) z a n dk ∧ SWK enc k w0 blk off dk wr))
          case atStart => exact ⟨0, dk, rfl, by first | rfl | go_num | simp, Nat.zero_le _, Nat.le_refl _, Lib.hid ⟨Nat.dvd_zero _, H.out.1, H.out.2.1, done_none (by omega), H.out.2.2.1, H.out.2.2.2⟩⟩
          case round =>
            clear H
            obtain ⟨a, dk, rfl, rfl, han, hkx3, H⟩ := hrel
            by_cases hlt : a + 2 * z ≤ n
            · have hltz : (a : Int) + 2 * (z : Int) ≤ (n : Int) := by omega
              have hdv : z ∣ a := Nat.dvd_trans (Nat.dvd_mul_left z 2) H.out.1
              have hc := HY.out a (a + z) (a + 2 * z) dk wr H.out.2.1 H.out.2.2.2.2.2 (by omega) (by omega) hlt (fine_left H.out.2.2.2.2.1 hdv (by omega)) (fine_right H.out.2.2.2.2.1 hdv (by omega))
              have ez : (((a + 2 * z : Nat) : Int)) = (a : Int) + 2 * (z : Int) := by omega
              have ez2 : (((a + z : Nat) : Int)) = (a : Int) + (z : Int) := by omega
              rw [ez, ez2] at hc
              clear ez ez2 hdv
              go_wp2_with (go_at_fn 52; refine hc.mono ?_; rintro e w2 ⟨rfl, hw2⟩)
              obtain ⟨d2, hm, hS⟩ := hw2
              go_roundg (n - (a + 2 * z))
              case measure => omega
              case rel =>
                obtain ⟨g1, g2, g3, g4, g5, g6⟩ := H.out
                exact ⟨a + 2 * z, d2, by go_num, by go_num, hlt, Nat.le_refl _, Lib.hid ⟨(Nat.dvd_add_right g1).2 (Nat.dvd_refl _), by rw [hm.1.1]; exact g2, HTR.out _ _ _ g3 (HMON.out _ _ _ _ g2 hlt hm.1), done_step g4 g1 hm.1 hm.2, fine_step (by omega) g5 hm.1, hS⟩⟩
            · have hltz : ¬ (a : Int) + 2 * (z : Int) ≤ (n : Int) := by omega
              by_cases hm2 : a + z < n
              · have hm2z : (a : Int) + (z : Int) < (n : Int) := by omega
                have hdv : z ∣ a := Nat.dvd_trans (Nat.dvd_mul_left z 2) H.out.1
                have hc := HY.out a (a + z) n dk wr H.out.2.1 H.out.2.2.2.2.2 (by omega) (by omega) (Nat.le_refl _) (fine_left H.out.2.2.2.2.1 hdv (by omega)) (fine_right H.out.2.2.2.2.1 hdv (by omega))
                have ez2 : (((a + z : Nat) : Int)) = (a : Int) + (z : Int) := by omega
                rw [ez2] at hc
                clear ez2 hdv
                go_wp2_with (go_at_fn 52; refine hc.mono ?_; rintro e w2 ⟨rfl, hw2⟩)
                obtain ⟨d2, hm, hS⟩ := hw2
                go_roundg (n - 2 * z)
                case measure => omega
                case rel =>
                  obtain ⟨g1, g2, g3, g4, g5, g6⟩ := H.out
                  exact ⟨2 * z, d2, by first | go_num | (congr 1; omega), by omega, by omega, Nat.le_refl _, Lib.hid ⟨by rw [hm.1.1]; exact g2, HTR.out _ _ _ g3 (HMON.out _ _ _ _ g2 (Nat.le_refl _) hm.1), done_last g4 g1 han (by omega) hm.1 hm.2, hS⟩⟩
              · have hm2z : ¬ (a : Int) + (z : Int) < (n : Int) := by omega
                go_wp2_with fail
                go_roundg (n - 2 * z)
                case measure => omega
                case rel =>
                  obtain ⟨g1, g2, g3, g4, g5, g6⟩ := H.out
                  have hdv : z ∣ a := Nat.dvd_trans (Nat.dvd_mul_left z 2) g1
                  have h7 : SortedIn (ltOf cf) a n dk := by
                    have := g5 a hdv (Nat.le_refl _)
                    rwa [Nat.min_eq_right (by omega)] at this
                  exact ⟨2 * z, dk, by first | go_num | (congr 1; omega), by omega, by omega, Nat.le_refl _, Lib.hid ⟨g2, g3, fine_two g4 g1 han h7 (by omega), g6⟩⟩
        · have hznz : ¬ (z : Int) < (n : Int) := by omega
          go_wp2_with fail
          go_end0
          exact ⟨rfl, dk, ⟨H.out.2.1, fine_all H.out.2.2.1 (by omega)⟩, H.out.2.2.2⟩
set_option maxHeartbeats 16000000 in
set_option maxRecDepth 1000000 in
theorem sortStable_call (F : SF P k) (R : RowK enc k w0 blk off d0) (eg : ∀ args w, (callFunc g args).run P w = .ok (.enter g args) w) (hcmp : CmpLays P g cb enc k cf blk off d0.size w0) (hO : SWO (ltOf cf)) (d : Array α) (w : World) (hs : d0.size = d.size) (S : SWK enc k w0 blk off d w) (hsz : d.size < 1099511627776) (hins : ∀ (a b : Nat) (dk : Array α) (w : World), dk.size = d.size → SWK enc k w0 blk off dk w → a ≤ b → b ≤ d.size → Calls P 51 #[.slice (some ⟨blk, off, none⟩) d.size cap, .int .i64 a, .int .i64 b, .func (.func g) #[] cb] w fun e w' => e = .returned (.tuple #[]) ∧ SRow enc k w0 blk off (Mrg (ltOf cf) a b dk) w') :
    Calls P 19 #[.slice (some ⟨blk, off, none⟩) d.size cap, .func (.func g) #[] cb] w fun e w' => e = .returned (.tuple #[]) ∧ SRow enc k w0 blk off (Mrg (ltOf cf) 0 d.size d) w' := by
  have mixed := F.mixed; have t0 := F.t0; have a0 := F.a0; have z0 := F.z0; have v0 := F.v0; have t3 := F.t3; have a3 := F.a3; have z3 := F.z3; have v3 := F.v3; have t4 := F.t4; have a4 := F.a4; have z4 := F.z4; have v4 := F.v4; have t9 := F.t9; have a9 := F.a9; have z9 := F.z9; have v9 := F.v9; have t22 := F.t22; have a22 := F.a22; have z22 := F.z22; have v22 := F.v22; have t25 := F.t25; have a25 := F.a25; have z25 := F.z25; have v25 := F.v25; have aE := F.aE; have zE := F.zE
  have eswr := F.eswr; have erot := F.erot; have esym := F.esym; have estb := F.estb; have eins := F.eins
  have hc := stb_call (cap := cap) (g := g) (cb := cb) F R eg hcmp hO d w hs S hsz hins
  clear S hins hcmp
  go_enter F.ftop, Try.ntmps19
  go_wp2_with (go_at_fn 39; refine hc.mono ?_; rintro e w1 ⟨rfl, hw1⟩)
  go_end0
  exact ⟨rfl, hw1⟩
end
end Go.Proofs.Ytdofpkdemmngeaa
namespace Go.Proofs.Ytdofpkdemmngeaa
open Go Go.Shelf Go.ChangeShapes Go.WideShapes Go.ChangeAt Go.RowKit Go.Sort Go.Lib lib
set_option linter.unusedVariables false
set_option linter.unusedSimpArgs false
set_option maxRecDepth 100000
theorem ins_none (A : Option Addr) (c : Nat) (f : Value) (w : World) : Calls Try.prog 51 #[.slice A 0 c, .int .i64 0, .int .i64 0, f] w fun e w' => e = .returned (.tuple #[]) ∧ w' = w := by
  go_enter Try.func51, Try.ntmps51
  go_wp2
  refine wp_loop_rounds 1 ?_
  rw [rounds_succ]
  go_wp2_with fail
  go_end0
  exact ⟨rfl, rfl⟩
theorem stb_none (A : Option Addr) (c : Nat) (f : Value) (w : World) : Calls Try.prog 39 #[.slice A 0 c, .int .i64 0, f] w fun e w' => e = .returned (.tuple #[]) ∧ w' = w := by
  go_enter Try.func39, Try.ntmps39
  go_wp2
  refine wp_loop_rounds 1 ?_
  rw [rounds_succ]
  go_upto_region 7 with (go_at_call 51; refine (ins_none _ _ _ _).mono ?_; rintro e w' ⟨rfl, rfl⟩)
  refine wp_loop_rounds 1 ?_
  rw [rounds_succ]
  go_wp2_with fail
  go_end0
  exact ⟨rfl, rfl⟩
theorem sortStable_none (A : Option Addr) (c : Nat) (f : Value) (w : World) : Calls Try.prog 19 #[.slice A 0 c, f] w fun e w' => e = .returned (.tuple #[]) ∧ w' = w := by
  go_enter Try.func19, Try.ntmps19
  go_wp2_with (go_at_call 39; refine (stb_none _ _ _ _).mono ?_; rintro e w' ⟨rfl, rfl⟩)
  go_end0
  exact ⟨rfl, rfl⟩
set_option maxHeartbeats 2000000 in
/-- a row of the call's own, sorted: a permutation, ascending -/
theorem sortStable_row {α : Type} [Inhabited α] (enc : α → List Value) (hk : ∀ x, (enc x).length = 2) (h1 : ∀ x, ∀ v ∈ enc x, v.oneCell' = true) (cf : α → α → Int) (hO : SWO (ltOf cf)) (g : Nat) (cb : Array Value)
    (eg : ∀ args w, (callFunc g args).run Try.prog w = .ok (.enter g args) w) (hcmp : ∀ (x y : α) (W : World), Calls Try.prog g (#[.agg (enc x).toArray, .agg (enc y).toArray] ++ cb) W fun e w' => e = .returned (.int .i64 (cf x y)) ∧ ∃ q os', w' = grow (W.drewN q) os')
    {w : World} {Bd c : Nat} {A : Option Addr} {L : List α} (h : w.ownsRow Bd 43 2 (.slice A L.length c) L.length (L.flatMap enc)) (hn : L.length ≤ 1048576) :
    Calls Try.prog 19 #[.slice A L.length c, .func (.func g) #[] cb] w fun e w' => e = .returned (.tuple #[]) ∧ ∃ D : List α, D.Perm L ∧ D.length = L.length ∧ (D.Pairwise fun a b => ltOf cf b a = false) ∧ w'.ownsRow Bd 43 2 (.slice A L.length c) L.length (D.flatMap enc) ∧ w.grownBy w' (Value.slice A L.length c).ownBlock := by
  by_cases h0 : L.length = 0
  · have hK := List.eq_nil_of_length_eq_zero h0
    subst hK
    refine (sortStable_none A c _ w).mono ?_
    rintro e w' ⟨rfl, rfl⟩
    exact ⟨rfl, [], List.Perm.refl _, rfl, List.Pairwise.nil, h, only_refl _ _⟩
  · rcases h.2 with ⟨hv, _⟩ | ⟨gb, cap, cur, hv, hbase, hbl, h1', h2, h3, h4⟩
    · injection hv with _ e _
      exact absurd e h0
    · injection hv with e1 _ e3
      subst e1 e3
      have hblk := (Array.getElem?_eq_some_iff.1 hbl).1
      have hH : HoldsK enc 2 w gb 0 L.toArray := fun j hj => by
        have hj' : j < L.length * 2 := by simpa using hj
        refine ⟨?_, by simp [World.frozen?, hbl]⟩
        have e1 : (cur.toList.take (L.length * 2))[j]? = (L.flatMap enc)[j]? := by rw [h4]
        rw [List.getElem?_take_of_lt hj', Array.getElem?_toList, flatR_at hk hj'] at e1
        simp only [World.cell?, hbl, Nat.zero_add, Option.isSome_none, Bool.false_eq_true, if_false]
        rw [e1]
        rfl
      have R : RowK enc 2 w gb 0 L.toArray := ⟨hk, h1, hH, hblk⟩
      have hC : CmpLays Try.prog g cb enc 2 cf gb 0 L.toArray.size w := fun _ _ _ _ x y => hcmp x y _
      have hs := sortStable_call (cap := c) (g := g) (cb := cb) sF R eg hC hO L.toArray w rfl (SWK.start hH) (by simp; omega) (fun a b dk W hd S hab hbd => by
        have hC2 : CmpLays Try.prog g cb enc 2 cf gb 0 dk.size W := fun _ _ _ _ x y => hcmp x y _
        have hi := AnyQ.insertionSortCmpFunc Try.insF 2 (fun w => Try.isAgg43 w) (fun w => Try.sizeOf43 w) enc hk h1 cf g cb gb 0 c a b dk W eg hC2 (S.holds hblk hH hd) (S.lt hblk) hab (by omega) (by rw [hd]; simp; omega)
        have hm := insertionSort_holds (lt := ltOf cf) hO dk a b hab (by omega)
        rw [hd] at hi
        refine hi.mono ?_
        rintro e w' ⟨rfl, n, os, rfl⟩
        exact ⟨rfl, _, hm, S.on hblk n _ os hm.1.1⟩)
      have hs' := hs
      simp only [List.size_toArray] at hs'
      refine hs'.mono ?_
      rintro e w' ⟨rfl, d', ⟨⟨hsz, _, hperm⟩, hsort⟩, nn, os, rfl⟩
      obtain ⟨D, rfl⟩ : ∃ D : List α, d' = D.toArray := ⟨d'.toList, by simp⟩
      have hDl : D.length = L.length := by simpa using hsz
      have hp : D.Perm L := by
        have e1 : (D.toArray.extract 0 L.length).toList = D := by simp [hDl.symm]
        have e2 : (L.toArray.extract 0 L.length).toList = L := by simp
        rw [e1, e2] at hperm
        exact hperm
      refine ⟨rfl, D, hp, hDl, ?_, ?_, ?_⟩
      · rw [List.pairwise_iff_getElem]
        intro i j hi hj hij
        have := hsort i j (Nat.zero_le _) hij (by omega)
        rw [getElem!_pos D.toArray j (by simpa using hj), getElem!_pos D.toArray i (by simpa using hi)] at this
        simpa using this
      · refine ⟨by rw [flatR_len hk, hDl], .inr ⟨gb, c, putCells id 0 (flatK enc 2 D.toArray) cur, rfl, hbase, ?_, h1', h2, by simp [putCells, h3], ?_⟩⟩
        · have hz : gb < (putRowK enc 2 (Sort.ahead w nn) gb 0 D.toArray).heap.size := by simpa [putRowK, putRow, mapBlock, Sort.ahead] using hblk
          unfold sortWorldK
          rw [heap_grow_old _ _ hz]
          simp [putRowK, putRow, mapBlock, Sort.ahead, Array.getElem?_modify, hbl, onCells]
        · rw [← hDl]
          exact putR_take hk (by rw [hDl, h3]; exact Nat.mul_le_mul_right _ h1')
      · refine ⟨rfl, rfl, rfl, by simp [sortWorldK, grow, putRowK, putRow, mapBlock, Sort.ahead], fun i hi hne => ?_⟩
        unfold sortWorldK
        rw [heap_grow_old _ _ (by simpa [putRowK, putRow, mapBlock, Sort.ahead] using hi)]
        have : gb ≠ i := fun e => hne (by rw [e]; rfl)
        simp [putRowK, putRow, mapBlock, Sort.ahead, Array.getElem?_modify, this]
end Go.Proofs.Ytdofpkdemmngeaa
