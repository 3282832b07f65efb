/-
  The program's JoinFiles returns what the reference's returns, for all arguments. Conditions: none.
-/
import Derived.Test.YtpklhedcjpfgdaaRows
import Derived.Test.YtpklhedcjpfgdaaJnS
import Derived.Test.YtpklhedcjpfgdaaFMk
namespace Go.Proofs.Ytpklhedcjpfgdaa.fnExactJoinFiles
open Go Go.ChangeShapes Go.WideShapes Go.ChangeAt Go.RowKit lib
set_option linter.unusedVariables false
set_option maxRecDepth 100000
theorem own_apart2 {w w1 : World} {B B' e e' k k' n n' : Nat} {v v' : Value} {xs xs' : List Value} (h : w.ownsRow B e k v n xs) (h' : w1.ownsRow B' e' k' v' n' xs') (hB : w.heap.size ≤ B') : v'.ownBlock = none ∨ v'.ownBlock ≠ v.ownBlock := by
  rcases own_apart h h' hB with h1 | h1
  · cases hv : v'.ownBlock with
    | none => exact .inl rfl
    | some g => exact .inr (by rw [h1]; simp)
  · exact .inr (fun he => h1 he.symm)
theorem own_slR2 {w : World} {B e n c : Nat} {A : Option Addr} {g : Nat → Value} (h : w.ownsRow B e 2 (.slice A n c) n ((List.range (n * 2)).map g)) : Sl w w.heap.size A (n * 2) g := by
  have h1 := own_sl h
  exact h1.congr fun i hi => by simp [hi]
theorem tot_at {s : Nat → ByteArray} : ∀ (n i : Nat), i < n → (s i).size ≤ tot s n
  | 0, i, h => absurd h (by omega)
  | n + 1, i, h => by
    have hs : tot s (n + 1) = tot s n + (s n).size := rfl
    rcases Nat.lt_or_ge i n with h1 | h1
    · have := tot_at (s := s) n i h1
      omega
    · obtain rfl : i = n := by omega
      omega
set_option maxHeartbeats 4000000 in
theorem law (Aa : Option Addr) (na ca : Nat) (sa : Nat → ByteArray) (Ab : Option Addr) (nb cb : Nat) (sb : Nat → ByteArray) (m : Nat) (f : Nat → ByteArray) (v1 : Int) (w : World) (hm : m ≤ 1048576) (haa : Sl w w.heap.size Aa (na * 2) (fun i => .string (sa i))) (hab : Sl w w.heap.size Ab (nb * 2) (fun i => .string (sb i))) (hok : (na + tot sa (na * 2)) + (nb + tot sb (nb * 2)) ≤ 1048576)
    (hs : ∀ (w : World) (Aa : Option Addr) (Ab : Option Addr), Sl w w.heap.size Aa (na * 2) (fun i => .string (sa i)) → Sl w w.heap.size Ab (nb * 2) (fun i => .string (sb i)) → Calls Try.prog 12 #[.slice Aa na na, .slice Ab nb nb] w fun e w' => ∃ A c, e = .returned (.tuple #[.slice A m c, .int .i64 v1]) ∧ w'.ownsRow w.heap.size 46 2 (.slice A m c) m ((List.range (m * 2)).map fun (i : Nat) => Value.string (f i)) ∧ Below w.heap.size w w')
    (hi : ∀ (w : World) (Aa : Option Addr) (Ab : Option Addr), Sl w w.heap.size Aa (na * 2) (fun i => .string (sa i)) → Sl w w.heap.size Ab (nb * 2) (fun i => .string (sb i)) → Calls Try.prog 14 #[.slice Aa na na, .slice Ab nb nb] w fun e w' => ∃ A c, e = .returned (.tuple #[.slice A m c, .int .i64 v1]) ∧ w'.ownsRow w.heap.size 46 2 (.slice A m c) m ((List.range (m * 2)).map fun (i : Nat) => Value.string (f i)) ∧ Below w.heap.size w w') :
    Calls Try.prog 4 #[.slice Aa na ca, .slice Ab nb cb] w fun e w' => e = .returned (.bool true) ∧ Below w.heap.size w w' := by
  have HS := Lib.hid hs
  have HI := Lib.hid hi
  clear hs hi
  have HAa := Lib.hid haa
  clear haa
  have hna : na ≤ 1048576 := by omega
  have HAb := Lib.hid hab
  clear hab
  have hnb : nb ≤ 1048576 := by omega
  have hbb := Below.refl w.heap.size w
  have BB := Lib.hid hbb
  clear hbb
  go_enter Try.func4, Try.ntmps4
  go_wp2_with fail
  refine (szFileS_ok Aa na ca _ sa _ (by omega) ((HAa.out.below BB.out).more BB.out.size) (by omega)).mono ?_
  rintro e w_ ⟨rfl, hb⟩
  have BB := Lib.hid (BB.out.trans (hb.mono BB.out.size))
  have hzz := BB.out.size
  clear hb
  go_wp2_with fail
  refine (szFileS_ok Ab nb cb _ sb _ (by omega) ((HAb.out.below BB.out).more BB.out.size) (by omega)).mono ?_
  rintro e w_ ⟨rfl, hb⟩
  have BB := Lib.hid (BB.out.trans (hb.mono BB.out.size))
  have hzz := BB.out.size
  clear hb
  go_wp2_with fail
  refine (toFileS_own Aa na ca sa _ hna ((HAa.out.below BB.out).more BB.out.size)).mono ?_
  rintro e w_ ⟨rfl, o, hb⟩
  have OZa := Lib.hid o
  clear o
  have BB := Lib.hid (BB.out.trans (hb.mono BB.out.size))
  have hzz := BB.out.size
  clear hb
  go_wp2_with fail
  refine (toFileS_own Ab nb cb sb _ hnb ((HAb.out.below BB.out).more BB.out.size)).mono ?_
  rintro e w_ ⟨rfl, o, hb⟩
  have OZb := Lib.hid o
  clear o
  have OZa := Lib.hid (own_below OZa.out hb)
  have BB := Lib.hid (BB.out.trans (hb.mono BB.out.size))
  have hzz := BB.out.size
  clear hb
  go_wp2_with fail
  refine (HS.out _ _ _ (own_slR2 OZa.out) (own_slR2 OZb.out)).mono ?_
  rintro e w_ ⟨A_w, c_w, rfl, o, hb⟩
  have OW := Lib.hid o
  clear o
  have OZa := Lib.hid (own_below OZa.out hb)
  have OZb := Lib.hid (own_below OZb.out hb)
  have BB := Lib.hid (BB.out.trans (hb.mono BB.out.size))
  have hzz := BB.out.size
  clear hb
  clear OZa
  clear OZb
  go_wp2_with fail
  refine (toFileS_own Aa na ca sa _ hna ((HAa.out.below BB.out).more BB.out.size)).mono ?_
  rintro e w_ ⟨rfl, o, hb⟩
  have apOWOXa := Lib.hid (own_apart OW.out o (Nat.le_refl _))
  have OXa := Lib.hid o
  clear o
  have OW := Lib.hid (own_below OW.out hb)
  have BB := Lib.hid (BB.out.trans (hb.mono BB.out.size))
  have hzz := BB.out.size
  clear hb
  go_wp2_with fail
  refine (toFileS_own Ab nb cb sb _ hnb ((HAb.out.below BB.out).more BB.out.size)).mono ?_
  rintro e w_ ⟨rfl, o, hb⟩
  have apOWOXb := Lib.hid (own_apart OW.out o (Nat.le_refl _))
  have apOXbOXa := Lib.hid (own_apart2 OXa.out o (Nat.le_refl _))
  have OXb := Lib.hid o
  clear o
  have OW := Lib.hid (own_below OW.out hb)
  have OXa := Lib.hid (own_below OXa.out hb)
  have BB := Lib.hid (BB.out.trans (hb.mono BB.out.size))
  have hzz := BB.out.size
  clear hb
  go_wp2_with fail
  refine (HI.out _ _ _ (own_slR2 OXa.out) (own_slR2 OXb.out)).mono ?_
  rintro e w_ ⟨A_g, c_g, rfl, o, hb⟩
  have apOWOG := Lib.hid (own_apart OW.out o (Nat.le_refl _))
  have apOGOXa := Lib.hid (own_apart2 OXa.out o (Nat.le_refl _))
  have apOGOXb := Lib.hid (own_apart2 OXb.out o (Nat.le_refl _))
  have OG := Lib.hid o
  clear o
  have OW := Lib.hid (own_below OW.out hb)
  have OXa := Lib.hid (own_below OXa.out hb)
  have OXb := Lib.hid (own_below OXb.out hb)
  have BB := Lib.hid (BB.out.trans (hb.mono BB.out.size))
  have hzz := BB.out.size
  clear hb
  go_wp2_with fail
  refine (eqFileS_same _ _ m _ _ f f _ hm (own_slR2 OG.out) (own_slR2 OW.out) (fun _ _ => rfl)).mono ?_
  rintro e w_ ⟨rfl, hb⟩
  have OW := Lib.hid (own_below OW.out hb)
  have OXa := Lib.hid (own_below OXa.out hb)
  have OXb := Lib.hid (own_below OXb.out hb)
  have OG := Lib.hid (own_below OG.out hb)
  have BB := Lib.hid (BB.out.trans (hb.mono BB.out.size))
  have hzz := BB.out.size
  clear hb
  go_wp2_with fail
  refine (toFileS_own Aa na ca sa _ hna ((HAa.out.below BB.out).more BB.out.size)).mono ?_
  rintro e w_ ⟨rfl, o, hb⟩
  have OY := Lib.hid o
  clear o
  have OW := Lib.hid (own_below OW.out hb)
  have OXa := Lib.hid (own_below OXa.out hb)
  have OXb := Lib.hid (own_below OXb.out hb)
  have OG := Lib.hid (own_below OG.out hb)
  have BB := Lib.hid (BB.out.trans (hb.mono BB.out.size))
  have hzz := BB.out.size
  clear hb
  go_wp2_with fail
  refine (eqFileS_same _ _ na _ _ sa sa _ hna (own_slR2 OXa.out) (own_slR2 OY.out) (fun _ _ => rfl)).mono ?_
  rintro e w_ ⟨rfl, hb⟩
  have OW := Lib.hid (own_below OW.out hb)
  have OXa := Lib.hid (own_below OXa.out hb)
  have OXb := Lib.hid (own_below OXb.out hb)
  have OG := Lib.hid (own_below OG.out hb)
  have OY := Lib.hid (own_below OY.out hb)
  have BB := Lib.hid (BB.out.trans (hb.mono BB.out.size))
  have hzz := BB.out.size
  clear hb
  clear OY
  go_wp2_with fail
  refine (toFileS_own Ab nb cb sb _ hnb ((HAb.out.below BB.out).more BB.out.size)).mono ?_
  rintro e w_ ⟨rfl, o, hb⟩
  have OY := Lib.hid o
  clear o
  have OW := Lib.hid (own_below OW.out hb)
  have OXa := Lib.hid (own_below OXa.out hb)
  have OXb := Lib.hid (own_below OXb.out hb)
  have OG := Lib.hid (own_below OG.out hb)
  have BB := Lib.hid (BB.out.trans (hb.mono BB.out.size))
  have hzz := BB.out.size
  clear hb
  go_wp2_with fail
  refine (eqFileS_same _ _ nb _ _ sb sb _ hnb (own_slR2 OXb.out) (own_slR2 OY.out) (fun _ _ => rfl)).mono ?_
  rintro e w_ ⟨rfl, hb⟩
  have OW := Lib.hid (own_below OW.out hb)
  have OXa := Lib.hid (own_below OXa.out hb)
  have OXb := Lib.hid (own_below OXb.out hb)
  have OG := Lib.hid (own_below OG.out hb)
  have OY := Lib.hid (own_below OY.out hb)
  have BB := Lib.hid (BB.out.trans (hb.mono BB.out.size))
  have hzz := BB.out.size
  clear hb
  clear OY
  go_wp2_with fail
  refine (markFileS_any _ na _ _ _ _ _ (by omega) (by omega) (by omega) OXa.out).mono ?_
  rintro e w_ ⟨rfl, o, hg⟩
  have BB := Lib.hid (BB.out.trans (below_grown hg (fun k hk => by have := (OXa.out.lt k hk).1; omega) BB.out.size))
  have OW := Lib.hid (OW.out.kept hg apOWOXa.out)
  have OG := Lib.hid (OG.out.kept hg apOGOXa.out)
  have OXb := Lib.hid (OXb.out.kept hg apOXbOXa.out)
  have OXa := Lib.hid o
  clear o hg
  have hzz := BB.out.size
  clear OXa
  go_wp2_with fail
  refine (markFileS_any _ nb _ _ _ _ _ (by omega) (by omega) (by omega) OXb.out).mono ?_
  rintro e w_ ⟨rfl, o, hg⟩
  have BB := Lib.hid (BB.out.trans (below_grown hg (fun k hk => by have := (OXb.out.lt k hk).1; omega) BB.out.size))
  have OW := Lib.hid (OW.out.kept hg apOWOXb.out)
  have OG := Lib.hid (OG.out.kept hg apOGOXb.out)
  have OXb := Lib.hid o
  clear o hg
  have hzz := BB.out.size
  clear OXb
  go_wp2_with fail
  refine (eqFileS_same _ _ m _ _ f f _ hm (own_slR2 OG.out) (own_slR2 OW.out) (fun _ _ => rfl)).mono ?_
  rintro e w_ ⟨rfl, hb⟩
  have OW := Lib.hid (own_below OW.out hb)
  have OG := Lib.hid (own_below OG.out hb)
  have BB := Lib.hid (BB.out.trans (hb.mono BB.out.size))
  have hzz := BB.out.size
  clear hb
  go_wp2_with fail
  refine (markFileS_any _ m _ _ _ _ _ (by omega) (by omega) (by omega) OG.out).mono ?_
  rintro e w_ ⟨rfl, o, hg⟩
  have BB := Lib.hid (BB.out.trans (below_grown hg (fun k hk => by have := (OG.out.lt k hk).1; omega) BB.out.size))
  have OW := Lib.hid (OW.out.kept hg apOWOG.out)
  have OG := Lib.hid o
  clear o hg
  have hzz := BB.out.size
  go_wp2_with fail
  refine (heldFileS_any _ m _ _ _ hm (by omega) (by omega) (own_slR2 OG.out)).mono ?_
  rintro e w_ ⟨rfl, hb⟩
  have OW := Lib.hid (own_below OW.out hb)
  have OG := Lib.hid (own_below OG.out hb)
  have BB := Lib.hid (BB.out.trans (hb.mono BB.out.size))
  have hzz := BB.out.size
  clear hb
  go_wp2_with fail
  refine (toFileS_own Aa na ca sa _ hna ((HAa.out.below BB.out).more BB.out.size)).mono ?_
  rintro e w_ ⟨rfl, o, hb⟩
  have OVa := Lib.hid o
  clear o
  have OW := Lib.hid (own_below OW.out hb)
  have OG := Lib.hid (own_below OG.out hb)
  have BB := Lib.hid (BB.out.trans (hb.mono BB.out.size))
  have hzz := BB.out.size
  clear hb
  go_wp2_with fail
  refine (toFileS_own Ab nb cb sb _ hnb ((HAb.out.below BB.out).more BB.out.size)).mono ?_
  rintro e w_ ⟨rfl, o, hb⟩
  have OVb := Lib.hid o
  clear o
  have OW := Lib.hid (own_below OW.out hb)
  have OG := Lib.hid (own_below OG.out hb)
  have OVa := Lib.hid (own_below OVa.out hb)
  have BB := Lib.hid (BB.out.trans (hb.mono BB.out.size))
  have hzz := BB.out.size
  clear hb
  go_wp2_with fail
  refine (HI.out _ _ _ (own_slR2 OVa.out) (own_slR2 OVb.out)).mono ?_
  rintro e w_ ⟨A_h, c_h, rfl, o, hb⟩
  have OH := Lib.hid o
  clear o
  have OW := Lib.hid (own_below OW.out hb)
  have OG := Lib.hid (own_below OG.out hb)
  have OVa := Lib.hid (own_below OVa.out hb)
  have OVb := Lib.hid (own_below OVb.out hb)
  have BB := Lib.hid (BB.out.trans (hb.mono BB.out.size))
  have hzz := BB.out.size
  clear hb
  clear OVa
  clear OVb
  go_wp2_with fail
  refine (eqFileS_same _ _ m _ _ f f _ hm (own_slR2 OH.out) (own_slR2 OW.out) (fun _ _ => rfl)).mono ?_
  rintro e w_ ⟨rfl, hb⟩
  have OW := Lib.hid (own_below OW.out hb)
  have OG := Lib.hid (own_below OG.out hb)
  have OH := Lib.hid (own_below OH.out hb)
  have BB := Lib.hid (BB.out.trans (hb.mono BB.out.size))
  have hzz := BB.out.size
  clear hb
  clear OH
  clear OW
  go_wp2_with fail
  refine (heldFileS_any _ m _ _ _ hm (by omega) (by omega) (own_slR2 OG.out)).mono ?_
  rintro e w_ ⟨rfl, hb⟩
  have OG := Lib.hid (own_below OG.out hb)
  have BB := Lib.hid (BB.out.trans (hb.mono BB.out.size))
  have hzz := BB.out.size
  clear hb
  go_wp2
  go_ret
  exact ⟨rfl, BB.out⟩
theorem law_over0 (Aa : Option Addr) (na ca : Nat) (sa : Nat → ByteArray) (Ab : Option Addr) (nb cb : Nat) (sb : Nat → ByteArray) (w : World) (haa : Sl w w.heap.size Aa (na * 2) (fun i => .string (sa i))) (hab : Sl w w.heap.size Ab (nb * 2) (fun i => .string (sb i))) (hka : na ≤ 9223372036854775807) (hma : ∀ i, i < (na * 2) → (sa i).size ≤ 9223372036854775807) (h : 1048576 < (na + tot sa (na * 2))) :
    Calls Try.prog 4 #[.slice Aa na ca, .slice Ab nb cb] w fun e w' => e = .returned (.bool true) ∧ Below w.heap.size w w' := by
  have hbb := Below.refl w.heap.size w
  have BB := Lib.hid hbb
  clear hbb
  have HAa := Lib.hid haa
  clear haa
  have HAb := Lib.hid hab
  clear hab
  go_enter Try.func4, Try.ntmps4
  go_wp2_with fail
  refine (szFileS_over Aa na ca _ sa _ (by omega) hka ((HAa.out.below BB.out).more BB.out.size) hma (by omega) (by omega)).mono ?_
  rintro e w_ ⟨rfl, hb⟩
  have BB := Lib.hid (BB.out.trans (hb.mono BB.out.size))
  clear hb
  go_wp2
  go_ret
  exact ⟨rfl, BB.out⟩
theorem law_over1 (Aa : Option Addr) (na ca : Nat) (sa : Nat → ByteArray) (Ab : Option Addr) (nb cb : Nat) (sb : Nat → ByteArray) (w : World) (haa : Sl w w.heap.size Aa (na * 2) (fun i => .string (sa i))) (hab : Sl w w.heap.size Ab (nb * 2) (fun i => .string (sb i))) (hkb : nb ≤ 9223372036854775807) (hmb : ∀ i, i < (nb * 2) → (sb i).size ≤ 9223372036854775807) (hp : (na + tot sa (na * 2)) ≤ 1048576) (h : 1048576 < (na + tot sa (na * 2)) + (nb + tot sb (nb * 2))) :
    Calls Try.prog 4 #[.slice Aa na ca, .slice Ab nb cb] w fun e w' => e = .returned (.bool true) ∧ Below w.heap.size w w' := by
  have hbb := Below.refl w.heap.size w
  have BB := Lib.hid hbb
  clear hbb
  have HAa := Lib.hid haa
  clear haa
  have HAb := Lib.hid hab
  clear hab
  go_enter Try.func4, Try.ntmps4
  go_wp2_with fail
  refine (szFileS_ok Aa na ca _ sa _ (by omega) ((HAa.out.below BB.out).more BB.out.size) (by omega)).mono ?_
  rintro e w_ ⟨rfl, hb⟩
  have BB := Lib.hid (BB.out.trans (hb.mono BB.out.size))
  have hzz := BB.out.size
  clear hb
  go_wp2_with fail
  refine (szFileS_over Ab nb cb _ sb _ (by omega) hkb ((HAb.out.below BB.out).more BB.out.size) hmb (by omega) (by omega)).mono ?_
  rintro e w_ ⟨rfl, hb⟩
  have BB := Lib.hid (BB.out.trans (hb.mono BB.out.size))
  clear hb
  go_wp2
  go_ret
  exact ⟨rfl, BB.out⟩
theorem walk (H : Type) (enc : TypeId × Value → H) (W : World) (base : Nat) (args : Array Value) (ds : List (DataW H)) (p : List MemPlace)
    (hval : ∀ (j : Nat) t v, Try.f4.params[j]? = some t → args[j]? = some v → Value.okWide Try.prog W .any base t v)
    (hA : DataW.TrodAll enc Try.prog W 0 (fun _ => true) true Try.f4.params.toList args.toList ds p) :
    Calls Try.prog 4 args W fun e W' => e = .returned (.bool true) ∧ Below W.heap.size W W' := by
  rw [Try.params4] at hA hval
  obtain ⟨v0, vs0, d0, ds0, p0, q0, hargs, rfl, rfl, h0, r0⟩ := trodAll_cons hA
  obtain ⟨v1, vs1, d1, ds1, p1, q1, rfl, rfl, rfl, h1, r1⟩ := trodAll_cons r0
  obtain ⟨rfl, rfl, rfl⟩ := trodAll_nil r1
  obtain rfl : args = #[v0, v1] := by cases args; simp_all
  obtain ⟨Aa, na, ca, sa, rfl, g1a, g2a, hsa, hma⟩ := open_sl_str2 Try.underlying28 Try.underlying58 (by kernel_rfl) (by kernel_rfl) Try.underlying9 Try.underlying9 (hval 0 28 v0 rfl rfl) h0
  obtain ⟨Ab, nb, cb, sb, rfl, g1b, g2b, hsb, hmb⟩ := open_sl_str2 Try.underlying28 Try.underlying58 (by kernel_rfl) (by kernel_rfl) Try.underlying9 Try.underlying9 (hval 1 28 v1 rfl rfl) h1
  by_cases hov0 : (na + tot sa (na * 2)) ≤ 1048576
  · skip
    by_cases hov1 : (na + tot sa (na * 2)) + (nb + tot sb (nb * 2)) ≤ 1048576
    · skip
      have hna : na ≤ 1048576 := by omega
      have hnb : nb ≤ 1048576 := by omega
      have ha1 : ∀ i, i < na * 2 → (sa i).size ≤ 1048576 := fun i hi => by have := tot_at (s := sa) _ i hi; omega
      have hb1 : ∀ i, i < nb * 2 → (sb i).size ≤ 1048576 := fun i hi => by have := tot_at (s := sb) _ i hi; omega
      have hc : jLen na nb sa sb ≤ 1048576 := by have := jLen_le na nb sa sb; omega
      exact law Aa na ca sa Ab nb cb sb (jLen na nb sa sb) (fun i => fAt (joinL (filS sa na) (filS sb nb)) i) (jCode na nb sa sb) W hc hsa hsb hov1
        (fun w A B hs ht => (specJoin_any A B na nb na nb sa sb w hna hnb ha1 hb1 hs ht (Nat.le_refl _)).mono fun r w' h => h)
        (fun w A B hs ht => (implJoin_any A B na nb na nb sa sb w hna hnb ha1 hb1 hs ht).mono fun r w' h => h)
    · exact law_over1 Aa na ca sa Ab nb cb sb W hsa hsb (by omega) hmb hov0 (by omega)
  · exact law_over0 Aa na ca sa Ab nb cb sb W hsa hsb (by omega) hma (by omega)
theorem own : ownKnob Try.prog.godebug = none := by kernel_rfl
theorem laidOut : laidOutB Try.prog = true := by kernel_rfl
theorem lifted (os : Os) (started : os.Started) (H : Type) (enc : TypeId × Value → H) :
    ReturnsInHanded {} Try.checked os 4 .any (Rows.fnExactJoinFilesSpec.pre6 enc Try.prog Try.f4 Rows.fnExactJoinFilesRow.domain false) (Rows.fnExactJoinFilesSpec.post enc Try.prog Try.f4 false true false false) := by
  refine returnsInHanded_of_change (C := Try.checked) own started (by kernel_rfl) Try.func4
    (ChangeSpec.witness6 (enc := enc) (C := Try.checked) false ⟨#[], #[.slice none 0 0, .slice none 0 0], []⟩ 8 (by kernel_rfl) (by kernel_rfl) (by kernel_rfl) (by kernel_rfl)) ?_
  intro W base args ds gs before hval hW _ _
  have hW' := hW
  obtain ⟨p, q, hA, hV, rfl, hfz, hnd⟩ := hW
  refine (walk H enc W base args ds p hval hA).mono fun e W' ⟨he, hb⟩ => ?_
  subst he
  exact ⟨_, rfl, law_post laidOut (by kernel_rfl) rfl rfl Try.underlying4 (fun xs hx => by
      match xs, hx with
      | [x0, x1], _ => exact ⟨rfl, rfl, rfl⟩) hW' hb⟩
theorem over : Rows.fnExactJoinFilesRow.holds Try.pinned (OpenSpec.ofChange Rows.fnExactJoinFilesSpec) :=
  OpenClaim.holds_of_wide 4 Try.f4 rfl rfl rfl rfl rfl rfl rfl ⟨rfl, rfl, rfl, rfl, rfl⟩ rfl rfl rfl rfl rfl (by kernel_rfl) Try.func4 (by kernel_rfl)
    (of_decide_eq_true (by kernel_rfl)) (by unfold Func.isWrapper; first | (rw [if_pos (by decide +kernel)]; kernel_rfl) | (rw [if_neg (by decide +kernel)]; exact ⟨rfl, rfl⟩))
    (fun os started H enc _ => lifted os started H enc)
/-- the given statement -/
theorem proved : Rows.FnExactJoinFilesSaid := over
end Go.Proofs.Ytpklhedcjpfgdaa.fnExactJoinFiles
