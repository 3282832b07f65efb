/-
  FnField: multiplication in GF(256) is associative, commutative and distributive; every element but 0 has an inverse and is a power of 2. Conditions: none.
-/
import Derived.Test.YtjcdomjaicdpjaaRows
import Derived.Test.YtjcdomjaicdpjaaGf
import Derived.Test.YtjcdomjaicdpjaaA2
namespace Go.Proofs.Ytjcdomjaicdpjaa.fnField
open Go Go.ChangeShapes Go.WideShapes Go.ChangeAt Go.RowKit lib
set_option linter.unusedVariables false
set_option maxRecDepth 100000
theorem mul_nat (a b : Nat) (x y : Int) (w : World) (ha : a < 256) (hb : b < 256) (hx : x = a) (hy : y = b) : Calls Try.prog 12 #[.int .i64 x, .int .i64 y] w fun e w' => e = .returned (.int .i64 (gf.gmul a b : Nat)) ∧ w = w' := by
  subst hx hy
  rw [← gfMulI_in a b ha hb]
  exact implGfMul_any _ _ _
theorem one_ne (v : Int) (h : v ≠ 1) : (v != 1) = true := by simpa using h
set_option maxHeartbeats 1000000 in
theorem law_short (A : Option Addr) (n c : Nat) (z : Nat → Int) (w : World) (hn : n ≤ 3000) (hs : Sl w w.heap.size A n (fun i => .int .u8 (z i))) (hz : ∀ i, i < n → (Lit.int .u8 (z i)).wf = true) :
    Calls Try.prog 5 #[.slice A n c] w fun e w' => e = .returned (.bool true) ∧ w = w' := by
  have c0 := a2Byte_any A n c 0 256 z w (by omega) hs hz (by omega) (by omega) (by omega)
  have c1 := a2Byte_any A n c 1 256 z w (by omega) hs hz (by omega) (by omega) (by omega)
  have c2 := a2Byte_any A n c 2 256 z w (by omega) hs hz (by omega) (by omega) (by omega)
  have C0 := Lib.hid c0
  have C1 := Lib.hid c1
  have C2 := Lib.hid c2
  clear c0 c1 c2 hs hz
  go_enter Try.func5, Try.ntmps5
  go_wp2_with (go_at_call 13; refine (a2Long_short _ _ _ _ _ _ _ hn (by omega)).mono ?_; rintro e w' ⟨rfl, rfl⟩)
  refine C0.out.mono ?_
  rintro e w' ⟨a, ha, rfl, rfl⟩
  go_wp2_with fail
  refine C1.out.mono ?_
  rintro e w' ⟨b, hb, rfl, rfl⟩
  go_wp2_with fail
  refine C2.out.mono ?_
  rintro e w' ⟨x, hx, rfl, rfl⟩
  clear C0 C1 C2
  have l1 := gf.gmul_lt a b ha
  have l2 := gf.gmul_lt a x ha
  have l3 := gf.gmul_lt b x hb
  have l4 := gf.xor_lt b x hb hx
  have x1 := i64_xor b x (by omega) (by omega)
  have x2 := i64_xor (gf.gmul a b) (gf.gmul a x) (by omega) (by omega)
  have e1 : gf.gmul b a = gf.gmul a b := gf.gmul_comm b a hb ha
  have e2 := gf.gmul_assoc a b x ha hb hx
  have e3 := gf.gmul_xor_right a b x
  have e4 := gf.gmul_one a ha
  have e5 := gf.gmul_zero a
  go_wp2_with fail
  refine (mul_nat a b _ _ _ ha hb rfl rfl).mono ?_
  rintro e w' ⟨rfl, rfl⟩
  go_wp2_with fail
  refine (mul_nat b a _ _ _ hb ha rfl rfl).mono ?_
  rintro e w' ⟨rfl, rfl⟩
  go_wp2_with fail
  refine (mul_nat (gf.gmul a b) x _ _ _ l1 hx rfl rfl).mono ?_
  rintro e w' ⟨rfl, rfl⟩
  go_wp2_with fail
  refine (mul_nat b x _ _ _ hb hx rfl rfl).mono ?_
  rintro e w' ⟨rfl, rfl⟩
  go_wp2_with fail
  refine (mul_nat a (gf.gmul b x) _ _ _ ha l3 rfl rfl).mono ?_
  rintro e w' ⟨rfl, rfl⟩
  go_wp2_with fail
  refine (mul_nat a (b ^^^ x) _ _ _ ha l4 rfl rfl).mono ?_
  rintro e w' ⟨rfl, rfl⟩
  go_wp2_with fail
  refine (mul_nat a x _ _ _ ha hx rfl rfl).mono ?_
  rintro e w' ⟨rfl, rfl⟩
  go_wp2_with fail
  refine (mul_nat a 1 _ _ _ ha (by omega) rfl rfl).mono ?_
  rintro e w' ⟨rfl, rfl⟩
  go_wp2_with fail
  refine (mul_nat a 0 _ _ _ ha (by omega) rfl rfl).mono ?_
  rintro e w' ⟨rfl, rfl⟩
  clear e1 e2 e3 e4 e5 x1 x2 l2 l3 l4 l1 hx
  have p1 := gf.gpow_lt a
  have p2 := gf.gpow_lt b
  have p3 := gf.gpow_add a b
  have p4 := gf.gpow_255
  by_cases h0 : a = 0
  · have h0' : ((a : Int) != 0) = false := by simp; omega
    have h1 : ((a : Int) % 255 == 0) = true := by simp; omega
    clear h0
    go_wp2_with fail
    refine (implGfPow_any (a + b) _ _ (by omega)).mono ?_
    rintro e w' ⟨rfl, rfl⟩
    go_wp2_with fail
    refine (implGfPow_any a _ _ rfl).mono ?_
    rintro e w' ⟨rfl, rfl⟩
    go_wp2_with fail
    refine (implGfPow_any b _ _ rfl).mono ?_
    rintro e w' ⟨rfl, rfl⟩
    go_wp2_with fail
    refine (mul_nat (gf.gpow a) (gf.gpow b) _ _ _ p1 p2 rfl rfl).mono ?_
    rintro e w' ⟨rfl, rfl⟩
    go_wp2_with fail
    refine (implGfPow_any 255 _ _ rfl).mono ?_
    rintro e w' ⟨rfl, rfl⟩
    go_wp2
    go_ret
    exact ⟨rfl, rfl⟩
  · have h0' : ((a : Int) != 0) = true := by simp; omega
    have i1 := gf.ginv_spec a ha h0
    have i2 := gf.ginv_lt a
    by_cases h5 : a = 255
    · have h1 : ((a : Int) % 255 == 0) = true := by simp; omega
      clear h0 h5
      go_wp2_with fail
      refine (implGfInverse_in a _ ha).mono ?_
      rintro e w' ⟨rfl, rfl⟩
      go_wp2_with fail
      refine (mul_nat a (gf.ginv a) _ _ _ ha i2 rfl rfl).mono ?_
      rintro e w' ⟨rfl, rfl⟩
      go_wp2_with fail
      refine (implGfPow_any (a + b) _ _ (by omega)).mono ?_
      rintro e w' ⟨rfl, rfl⟩
      go_wp2_with fail
      refine (implGfPow_any a _ _ rfl).mono ?_
      rintro e w' ⟨rfl, rfl⟩
      go_wp2_with fail
      refine (implGfPow_any b _ _ rfl).mono ?_
      rintro e w' ⟨rfl, rfl⟩
      go_wp2_with fail
      refine (mul_nat (gf.gpow a) (gf.gpow b) _ _ _ p1 p2 rfl rfl).mono ?_
      rintro e w' ⟨rfl, rfl⟩
      go_wp2_with fail
      refine (implGfPow_any 255 _ _ rfl).mono ?_
      rintro e w' ⟨rfl, rfl⟩
      go_wp2
      go_ret
      exact ⟨rfl, rfl⟩
    · have h1 : ((a : Int) % 255 == 0) = false := by simp; omega
      have i3 := gf.gpow_ne_one a (by omega)
      have i4 : ((gf.gpow a : Nat) : Int) ≠ 1 := by omega
      have i5 := one_ne _ i4
      clear h0 h5 i3 i4
      go_wp2_with fail
      refine (implGfInverse_in a _ ha).mono ?_
      rintro e w' ⟨rfl, rfl⟩
      go_wp2_with fail
      refine (mul_nat a (gf.ginv a) _ _ _ ha i2 rfl rfl).mono ?_
      rintro e w' ⟨rfl, rfl⟩
      go_wp2_with fail
      refine (implGfPow_any (a + b) _ _ (by omega)).mono ?_
      rintro e w' ⟨rfl, rfl⟩
      go_wp2_with fail
      refine (implGfPow_any a _ _ rfl).mono ?_
      rintro e w' ⟨rfl, rfl⟩
      go_wp2_with fail
      refine (implGfPow_any b _ _ rfl).mono ?_
      rintro e w' ⟨rfl, rfl⟩
      go_wp2_with fail
      refine (mul_nat (gf.gpow a) (gf.gpow b) _ _ _ p1 p2 rfl rfl).mono ?_
      rintro e w' ⟨rfl, rfl⟩
      go_wp2_with fail
      refine (implGfPow_any 255 _ _ rfl).mono ?_
      rintro e w' ⟨rfl, rfl⟩
      go_wp2_with fail
      refine (implGfPow_any a _ _ rfl).mono ?_
      rintro e w' ⟨rfl, rfl⟩
      go_wp2
      go_ret
      exact ⟨rfl, rfl⟩
theorem law_long (A : Option Addr) (n c : Nat) (w : World) (hn : 3000 < n) :
    Calls Try.prog 5 #[.slice A n c] w fun e w' => e = .returned (.bool true) ∧ w = w' := by
  go_enter Try.func5, Try.ntmps5
  go_wp2_with (go_at_call 13; refine (a2Long_long _ _ _ _ _ _ _ (.inl hn)).mono ?_; rintro e w' ⟨rfl, rfl⟩)
  go_ret
  exact ⟨rfl, rfl⟩
theorem walk (H : Type) (enc : TypeId × Value → H) (W : World) (base : Nat) (args : Array Value) (ds : List (DataW H)) (p : List MemPlace)
    (hval : ∀ (j : Nat) t v, Try.f5.params[j]? = some t → args[j]? = some v → Value.okWide Try.prog W .any base t v)
    (hA : DataW.TrodAll enc Try.prog W 0 (fun _ => true) true Try.f5.params.toList args.toList ds p) :
    Calls Try.prog 5 args W fun e W' => e = .returned (.bool true) ∧ Below W.heap.size W W' := by
  rw [Try.params5] at hA hval
  obtain ⟨v0, vs0, d0, ds0, p0, q0, hargs, rfl, rfl, h0, r0⟩ := trodAll_cons hA
  obtain ⟨rfl, rfl, rfl⟩ := trodAll_nil r0
  obtain rfl : args = #[v0] := by cases args; simp_all
  obtain ⟨A, n, c, z, rfl, h1, h2, hs, hz⟩ := open_sl_int Try.underlying26 Try.underlying5 (by kernel_rfl) (hval 0 26 v0 rfl rfl) h0
  by_cases hn : n ≤ 3000
  · exact (law_short A n c z W hn hs hz).mono fun e W' ⟨he, hw⟩ => ⟨he, hw ▸ Below.refl _ _⟩
  · exact (law_long A n c W (by omega)).mono fun e W' ⟨he, hw⟩ => ⟨he, hw ▸ Below.refl _ _⟩
theorem own : ownKnob Try.prog.godebug = none := by kernel_rfl
theorem laidOut : laidOutB Try.prog = true := by kernel_rfl
theorem lifted (os : Os) (started : os.Started) (H : Type) (enc : TypeId × Value → H) :
    ReturnsInHanded {} Try.checked os 5 .any (Rows.fnFieldSpec.pre6 enc Try.prog Try.f5 Rows.fnFieldRow.domain false) (Rows.fnFieldSpec.post enc Try.prog Try.f5 false true false false) := by
  refine returnsInHanded_of_change (C := Try.checked) own started (by kernel_rfl) Try.func5
    (ChangeSpec.witness6 (enc := enc) (C := Try.checked) false ⟨#[], #[.slice none 0 0], []⟩ 8 (by kernel_rfl) (by kernel_rfl) (by kernel_rfl) (by kernel_rfl)) ?_
  intro W base args ds gs before hval hW _ _
  have hW' := hW
  obtain ⟨p, q, hA, hV, rfl, hfz, hnd⟩ := hW
  refine (walk H enc W base args ds p hval hA).mono fun e W' ⟨he, hb⟩ => ?_
  subst he
  exact ⟨_, rfl, law_post laidOut (by kernel_rfl) rfl rfl Try.underlying4 (fun xs hx => by
      match xs, hx with
      | [x0], _ => exact ⟨rfl, rfl, rfl⟩) hW' hb⟩
theorem over : Rows.fnFieldRow.holds Try.pinned (OpenSpec.ofChange Rows.fnFieldSpec) :=
  OpenClaim.holds_of_wide 5 Try.f5 rfl rfl rfl rfl rfl rfl rfl ⟨rfl, rfl, rfl, rfl, rfl⟩ rfl rfl rfl rfl rfl (by kernel_rfl) Try.func5 (by kernel_rfl)
    (of_decide_eq_true (by kernel_rfl)) (by unfold Func.isWrapper; first | (rw [if_pos (by decide +kernel)]; kernel_rfl) | (rw [if_neg (by decide +kernel)]; exact ⟨rfl, rfl⟩))
    (fun os started H enc _ => lifted os started H enc)
/-- the given statement -/
theorem proved : Rows.FnFieldSaid := over
end Go.Proofs.Ytjcdomjaicdpjaa.fnField
