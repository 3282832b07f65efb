/-
  Disks of chains: the lost blocks in chains, the reference's side.
-/
import Derived.Test.YtapkckpjeoedaaaGreatDoorLcTop
import Derived.ArgAppend
import Derived.Deep.DeepAppendRoom
namespace Go.Proofs.YtapkckpjeoedaaaGreatDoor
open Go Go.ChangeShapes Go.WideShapes Go.ChangeAt Go.RowKit lib
set_option linter.unusedVariables false
set_option maxRecDepth 100000
section
variable {P : Program} {w : World}
/-- 'out = append(out, l...)' of numbers: the row stays in its block or lies in a new one -/
theorem wpList_appendL {ops : Array Oper} {rest : List Oper} {o : Oper} {a : Act} {Q : Exit → Act → World → Prop} (s x : Operand) (t : TypeId) (z : Value) (bytes B : Nat) {Au Al : Option Addr} {cu cl : Nat} {us l : List Nat}
    (hus : IntsR B w Au cu us) (hl : IntsR B w Al cl l) (hl0 : 0 < l.length) (hg : o.guard = none) (hop : o.op = .call { callee := .builtin .append, args := #[s, x], argTypes := #[t, t] })
    (h1 : P.underlying t = some (.slice 2)) (hinfo : (P.info? 2).map (fun i => (i.zero, i.size, i.bytes)) = some (some z, 1, bytes)) (hz : z.cells.size = 1)
    (hs : a.eval s = .slice Au us.length cu) (hx : a.eval x = .slice Al l.length cl) (hn : us.length + l.length ≤ 1000000) (hby : bytes ≤ 64) (hB : B ≤ w.heap.size)
    (hK : ∀ A' c' w', IntsR B w' A' c' (us ++ l) → w.grownBy w' (Value.slice Au us.length cu).ownBlock → (∀ q, (Value.slice A' (us ++ l).length c').ownBlock = some q → (Value.slice Au us.length cu).ownBlock = some q ∨ w.heap.size ≤ q) → wpList P ops Q rest (a.put o.dst (.slice A' (us.length + l.length) c')) w') :
    wpList P ops Q (o :: rest) a w := by
  obtain ⟨i0, hi, hz0, hz1, hz2⟩ := info_parts hinfo
  have hb : (us.length + l.length) * bytes ≤ 140737488355328 := by
    have := Nat.mul_le_mul hn hby
    omega
  have h63 : us.length + l.length ≤ maxLen := by simp only [maxLen]; omega
  rcases hl.2 with ⟨hv, _⟩ | ⟨gl, capl, curl, hv, hbl, hgl, hnl, hml, hcl, htl⟩
  · injection hv with _ h2 _; omega
  injection hv with e1 _ e2
  subst e1 e2
  have hcells := World.ownsRow.cells hl (g := gl) rfl
  have h1c : ∀ y ∈ (l.map fun (i : Nat) => Value.int .i64 (i : Int)), y.oneCell' = true := by
    intro y hy
    obtain ⟨i, _, rfl⟩ := List.mem_map.1 hy
    rfl
  rcases hus.2 with ⟨hu, hu0⟩ | ⟨gu, capu, curu, hu, hbu, hgu, hnu, hmu, hcu, htu⟩
  · injection hu with e1 _ e2
    subst e1 e2
    have hne : us = [] := List.eq_nil_of_length_eq_zero hu0
    subst hne
    refine wpList_append_own _ hg s x t hop w.heap.size 2 i0 z 1 bytes h1 hi hz0 hz1 hz2 hz (by decide) (.slice none 0 0) 0 [] hs (World.ownsRow_nil _ _ _ _) ⟨gl, 0, none⟩ l.length cl _ hx (by simp) hcells h1c (by simpa using h63) (by simpa using hb) (Nat.le_refl _) ?_
    intro v' w1 ho hgr _
    rw [Nat.zero_add] at ho
    obtain ⟨g, cap, rfl, _, _⟩ := ho.form (by omega)
    have := hK (some ⟨g, 0, none⟩) cap w1 (by unfold IntsR; rw [List.nil_append]; exact own_base ho hB) hgr (fun q hq => .inr (by rw [List.nil_append] at hq; exact own_lt ho q hq))
    rwa [List.length_nil, Nat.zero_add] at this
  · injection hu with e1 _ e2
    subst e1 e2
    have hmap : (us ++ l).map (fun (i : Nat) => Value.int .i64 (i : Int)) = us.map (fun (i : Nat) => Value.int .i64 (i : Int)) ++ l.map (fun (i : Nat) => Value.int .i64 (i : Int)) := List.map_append
    by_cases hroom : us.length + l.length ≤ cu
    · refine wpList_append_own_spare _ hg s x t hop B 2 i0 1 h1 hi hz1 gu us.length cu _ hs hus ⟨gl, 0, none⟩ l.length cl _ hx (by simp) hcells h1c hroom ?_
      intro w1 ho hgr
      exact hK (some ⟨gu, 0, none⟩) cu w1 (by unfold IntsR; rw [List.length_append, hmap]; exact ho) hgr (fun q hq => .inl hq)
    · refine wpList_append_grows _ hg s x t hop 2 i0 z 1 bytes h1 hi hz0 hz1 hz2 hz (by decide) (some ⟨gu, 0, none⟩) us.length cu (us.map fun (i : Nat) => Value.int .i64 (i : Int)) hs (fun h => by cases h) (by simp) (fun b hb => by injection hb with hb; subst hb; exact World.ownsRow.cells hus rfl) ⟨gl, 0, none⟩ l.length cl _ hx (by simp) hcells h1c (by omega) h63 hb ?_
      intro v' w1 ho hgr
      obtain ⟨g, cap, rfl, _, _⟩ := ho.form (by omega)
      refine hK (some ⟨g, 0, none⟩) cap w1 (by unfold IntsR; rw [List.length_append, hmap]; exact own_base ho hB) ⟨hgr.os, hgr.tape, hgr.output, hgr.size, fun i hi _ => hgr.block i hi (by simp)⟩ (fun q hq => .inr ?_)
      rw [List.length_append] at hq
      exact own_lt ho q hq
end
set_option maxHeartbeats 2000000 in
theorem specFollow_any {w : World} {p g n z e d t N c c1 c2 : Nat} {u : Nat → UInt8} {A1 A2 : Option Addr} {L us : List Nat} {lk : Nat → Nat} (a0 : Nat) (ha0 : a0 < 256) (h : ChW w p g n z e d t N c u) (hn : n ≤ 128) (hNz : z + n ≤ N) (hN : N ≤ 4096) (hL : ∀ x, x ∈ L → x < n) (hLl : L.length ≤ 128) (hul : us.length ≤ 128)
    (hlk : ∀ a, (u (z + a)).toNat = lk a) (hlk3 : ∀ a, lk a < 256) (h1 : Sl w w.heap.size A1 L.length (fun i => .int .i64 ((L.getD i 0 : Nat) : Int))) (h2 : Sl w w.heap.size A2 us.length (fun i => .int .i64 ((us.getD i 0 : Nat) : Int))) :
    Calls Tryz.prog 89 #[.pointer (some ⟨p, 0, none⟩), .int .i64 a0, .slice A1 L.length c1, .slice A2 us.length c2] w fun r w' => ∃ A c, r = .returned (.slice A (flwA L lk us a0).length c) ∧ IntsR w.heap.size w' A c (flwA L lk us a0) ∧ Below w.heap.size w w' := by
  have hb0 := (Below.refl w.heap.size w).alloc (Nat.le_refl _) (.cells #[] 2)
  obtain ⟨Y, hY⟩ : ∃ Y, flwA L lk us a0 = Y := ⟨_, rfl⟩
  have HFA := Lib.hid (show flw L lk us 129 [] a0 = Y from hY)
  rw [hY]
  have HH := Lib.hid h
  have H1 := Lib.hid h1
  have H2 := Lib.hid h2
  have HLN := Lib.hid hL
  have HLK := Lib.hid hlk
  have HL3 := Lib.hid hlk3
  clear hY h h1 h2 hL hlk hlk3
  go_enter Tryz.func89, Tryz.ntmps89
  go_wp2_with fail
  go_loopg [1, 9] 130 (fun g' s1 s9 wr => ∃ (l : List Nat) (a f : Nat) (Ac : Option Addr) (cc : Nat), 130 - l.length ≤ g' ∧ f + l.length = 129 ∧ s9 = .slice Ac l.length cc ∧ s1 = .int .i64 a ∧ a < 256 ∧ flw L lk us f l a = Y ∧ FlwOk n L us l ∧ IntsR w.heap.size wr Ac cc l ∧ Below w.heap.size w wr)
  case atStart => exact ⟨[], a0, 129, _, 0, by simp, rfl, rfl, rfl, ha0, HFA.out, FlwOk.nil n L us, own_nil0 w _, hb0⟩
  case round =>
    obtain ⟨l, a, f, Ac, cc, hg', hfl, rfl, rfl, ha, hfy, hok, hil, hb⟩ := hrel
    have hll := hok.len
    have HFY := Lib.hid hfy
    have HOK := Lib.hid hok
    have HIL := Lib.hid hil
    have HB := Lib.hid hb
    have hz := hb.size
    have HC1 := Lib.hid (l00Has_any (fun i => ((L.getD i 0 : Nat) : Int)) (a : Int) (H1.out.below HB.out) (c := c1) (by omega))
    have HC2 := Lib.hid (l00Has_any (fun i => ((us.getD i 0 : Nat) : Int)) (a : Int) (H2.out.below HB.out) (c := c2) (by omega))
    have HC3 := Lib.hid (l00Has_any (fun i => ((l.getD i 0 : Nat) : Int)) (a : Int) hil.sl (c := cc) (by omega))
    rw [hasZ_mem] at HC1 HC2 HC3
    have HPU : Hid (wr.ownsRow w.heap.size 2 1 (.slice Ac l.length cc) l.length (l.map fun (i : Nat) => Value.int .i64 (i : Int))) := Lib.hid hil
    obtain ⟨b1, hb1⟩ : ∃ b1, decide (a ∈ L) = b1 := ⟨_, rfl⟩
    obtain ⟨b2, hb2⟩ : ∃ b2, decide (a ∈ us) = b2 := ⟨_, rfl⟩
    obtain ⟨b3, hb3⟩ : ∃ b3, decide (a ∈ l) = b3 := ⟨_, rfl⟩
    rw [hb1] at HC1
    rw [hb2] at HC2
    rw [hb3] at HC3
    have HHT := Lib.hid (show (b1 && !b2 && !b3) = true ↔ (a ∈ L ∧ a ∉ us ∧ a ∉ l) by rw [← hb1, ← hb2, ← hb3]; simp [and_assoc])
    have HD1 := Lib.hid (fun (A : Option Addr) (m c' : Nat) (e1 : A = A1) (e2 : m = L.length) (e3 : c' = c1) => (show Calls Tryz.prog 85 #[.slice A m c', .int .i64 (a : Int)] wr fun e w' => e = .returned (.bool b1) ∧ wr = w' by subst e1 e2 e3; exact HC1.out))
    have HD2 := Lib.hid (fun (A : Option Addr) (m c' : Nat) (e1 : A = A2) (e2 : m = us.length) (e3 : c' = c2) => (show Calls Tryz.prog 85 #[.slice A m c', .int .i64 (a : Int)] wr fun e w' => e = .returned (.bool b2) ∧ wr = w' by subst e1 e2 e3; exact HC2.out))
    have HD3 := Lib.hid (fun (A : Option Addr) (m c' : Nat) (e1 : A = Ac) (e2 : m = l.length) (e3 : c' = cc) => (show Calls Tryz.prog 85 #[.slice A m c', .int .i64 (a : Int)] wr fun e w' => e = .returned (.bool b3) ∧ wr = w' by subst e1 e2 e3; exact HC3.out))
    clear hfy hok hil hb hb1 hb2 hb3 hb0 HC1 HC2 HC3
    go_upto_region 2 with fail
    go_cut [25] (fun s25 wx => s25 = .bool (b1 && !b2 && !b3) ∧ wx = wr)
    case first =>
      cases b1 <;> cases b2 <;> cases b3 <;>
        (go_wp2_with (first
          | (go_at_call 85; refine (HD1.out _ _ _ (by rfl) (by rfl) (by rfl)).mono ?_; rintro e w2 ⟨rfl, rfl⟩)
          | (go_at_call 85; refine (HD2.out _ _ _ (by rfl) (by rfl) (by rfl)).mono ?_; rintro e w2 ⟨rfl, rfl⟩)
          | (go_at_call 85; refine (HD3.out _ _ _ (by rfl) (by rfl) (by rfl)).mono ?_; rintro e w2 ⟨rfl, rfl⟩))
         go_meet
         exact ⟨rfl, rfl⟩)
    case rest =>
      obtain ⟨rfl, rfl⟩ := hcut
      obtain ⟨hit, hhit⟩ : ∃ hit, (b1 && !b2 && !b3) = hit := ⟨_, rfl⟩
      rw [hhit] at HHT
      rw [hhit]
      clear hhit
      cases hit with
      | true =>
        have HHIT := Lib.hid (HHT.out.1 rfl)
        have hlen1 : l.length < n := by have := (HOK.out.snoc HLN.out HHIT.out).len; simp at this; omega
        obtain ⟨f', rfl⟩ : ∃ f', f = f' + 1 := ⟨f - 1, by omega⟩
        have HFN := Lib.hid ((flw_hit (lk := lk) (f := f') HHIT.out).symm.trans HFY.out)
        have HON := Lib.hid (HOK.out.snoc HLN.out HHIT.out)
        have han := HLN.out _ HHIT.out.1
        go_upto_region 4 with (at_builtin; refine wpList_pushG (.tmp 26) (.tmp 28) 74 w.heap.size 2 (.int .i64 0) _ 8 _ l.length _ HPU.out rfl rfl Tryz.underlying74 infoI64 rfl rfl rfl rfl rfl (by omega) (by omega) hz ?_; intro A' c3 w3 ho3 hg3)
        have HI3 := Lib.hid (intsR_snoc ho3)
        have HB3 := Lib.hid (HB.out.grown hg3 hz (fun o e => own_lt HPU.out _ e))
        have HC3 := Lib.hid (HH.out.below HB3.out)
        have HLA := Lib.hid (specLink_any a HC3.out (by omega) (by omega))
        rw [HLK.out a] at HLA
        clear ho3 hg3
        go_wp2_with (go_at_call 79; refine HLA.out.mono ?_; rintro e6 w6 ⟨rfl, rfl⟩)
        go_roundg (130 - (l ++ [a]).length)
        case measure => simp; omega
        case rel => exact ⟨l ++ [a], lk a, f', some A', c3, Nat.le_refl _, by simp; omega, by simp, rfl, HL3.out a, HFN.out, HON.out, HI3.out.drew, HB3.out.drew⟩
      | false =>
        have HEQ := Lib.hid (show l = Y by rw [← HFY.out, flw_stop (fun h => by have := HHT.out.2 h; simp at this)])
        go_wp2_with fail
        go_ret
        rw [← HEQ.out]
        exact ⟨Ac, cc, rfl, HIL.out, HB.out⟩
/-- what the reference's loops over the lost blocks keep -/
structure StS (w wr : World) (L : List Nat) (Al : Option Addr) (cl H : Nat) (Au : Option Addr) (cu : Nat) (us : List Nat) (A : Option Addr) (c : Nat) (Ls : List (List Nat)) : Prop where
  ol : OL w.heap.size (fun o => o < H ∧ some o ≠ (Value.slice Au us.length cu).ownBlock) wr A c Ls
  hh : H ≤ wr.heap.size
  wh : w.heap.size ≤ H
  lo : IntsR w.heap.size wr Al cl L
  uo : IntsR w.heap.size wr Au cu us
  la : ∀ o, (Value.slice Al L.length cl).ownBlock = some o → o < H ∧ some o ≠ (Value.slice Au us.length cu).ownBlock
  be : Below w.heap.size w wr
section
variable {w wr wr' : World} {L : List Nat} {Al : Option Addr} {cl H : Nat} {Au : Option Addr} {cu : Nat} {us : List Nat} {A : Option Addr} {c : Nat} {Ls : List (List Nat)}
theorem StS.below (h : StS w wr L Al cl H Au cu us A c Ls) (hb : Below wr.heap.size wr wr') : StS w wr' L Al cl H Au cu us A c Ls :=
  ⟨h.ol.below hb, Nat.le_trans h.hh hb.size, h.wh, h.lo.below hb, h.uo.below hb, h.la, h.be.trans (hb.mono h.be.size)⟩
theorem StS.more {H' : Nat} (h : StS w wr L Al cl H Au cu us A c Ls) (hH : H ≤ H') (hw : H' ≤ wr.heap.size) : StS w wr L Al cl H' Au cu us A c Ls :=
  ⟨h.ol.more fun o ho => ⟨Nat.lt_of_lt_of_le ho.1 hH, ho.2⟩, hw, Nat.le_trans h.wh hH, h.lo, h.uo, fun o ho => ⟨Nat.lt_of_lt_of_le (h.la o ho).1 hH, (h.la o ho).2⟩, h.be⟩
/-- the numbers are appended to those that are used -/
theorem StS.use {Ay Au' : Option Addr} {cy cu' : Nat} {Y : List Nat} (h : StS w wr L Al cl H Au cu us A c Ls) (hu : ∀ o, (Value.slice Au us.length cu).ownBlock = some o → o < H) (hy : IntsR H wr Ay cy Y) (ho : IntsR w.heap.size wr' Au' cu' (us ++ Y)) (hg : wr.grownBy wr' (Value.slice Au us.length cu).ownBlock)
    (hq : ∀ q, (Value.slice Au' (us ++ Y).length cu').ownBlock = some q → (Value.slice Au us.length cu).ownBlock = some q ∨ wr.heap.size ≤ q) :
    StS w wr' L Al cl H Au' cu' (us ++ Y) A c Ls ∧ IntsR H wr' Ay cy Y ∧ (∀ o, (Value.slice Ay Y.length cy).ownBlock = some o → some o ≠ (Value.slice Au' (us ++ Y).length cu').ownBlock) := by
  have hhh := h.hh
  have hF : ∀ o, (o < H ∧ some o ≠ (Value.slice Au us.length cu).ownBlock) → o < H ∧ some o ≠ (Value.slice Au' (us ++ Y).length cu').ownBlock := fun o ho => ⟨ho.1, fun e => by
    rcases hq o e.symm with h1 | h1
    · exact ho.2 h1.symm
    · omega⟩
  obtain ⟨xs, hrow⟩ := h.ol.row
  have hne := own_neO h.uo hrow tI
  refine ⟨⟨(h.ol.grown hg (fun o e => .inr ⟨fun hf => hf.2 e.symm, fun e2 => ?_⟩)).more hF, Nat.le_trans h.hh hg.size, h.wh, h.lo.grown hg ?_, ho, fun o e => hF o (h.la o e), h.be.grown hg h.be.size (fun o e => own_lt h.uo o e)⟩, hy.grown hg ?_, fun o e e2 => ?_⟩
  · rcases hne with h1 | h1
    · rw [h1] at e; cases e
    · exact h1 (e.trans e2.symm)
  · cases hv : (Value.slice Al L.length cl).ownBlock with
    | none => exact .inl rfl
    | some q => exact .inr fun e => (h.la q hv).2 e.symm
  · cases hv : (Value.slice Ay Y.length cy).ownBlock with
    | none => exact .inl rfl
    | some q => exact .inr fun e => by have := own_lt hy q hv; have := hu q e; omega
  · have h1 := own_lt hy o e
    rcases hq o e2.symm with h2 | h2
    · have := hu o h2; omega
    · have := own_ltW hy o e; omega
theorem StS.push {A' Ay : Option Addr} {c' cy : Nat} {Y : List Nat} {xs0 : List Value} (h : StS w wr L Al cl H Au cu us A c Ls) (hl : IntsR H wr Ay cy Y) (hy : ∀ o, (Value.slice Ay Y.length cy).ownBlock = some o → some o ≠ (Value.slice Au us.length cu).ownBlock) (hx : wr.ownsRow w.heap.size 74 1 (.slice A Ls.length c) Ls.length xs0)
    (ho : wr'.ownsRow w.heap.size 74 1 (.slice A' (Ls.length + 1) c') (Ls.length + 1) (xs0 ++ [.slice Ay Y.length cy])) (hg : wr.grownBy wr' (Value.slice A Ls.length c).ownBlock) : StS w wr' L Al cl wr'.heap.size Au cu us A' c' (Ls ++ [Y]) := by
  have hhh := h.hh
  have hgs := hg.size
  refine ⟨h.ol.push (hl.base h.wh) (fun o e => ⟨fun hf => by have := own_lt hl o e; omega, by have := own_ltW hl o e; omega, hy o e⟩) (fun o hf => ⟨by omega, hf.2⟩) hx ho hg, Nat.le_refl _, by have := h.wh; omega, h.lo.grown hg ((own_neO h.lo hx tI).imp id fun h e => h e.symm), h.uo.grown hg ((own_neO h.uo hx tI).imp id fun h e => h e.symm), fun o e => ⟨by have := (h.la o e).1; omega, (h.la o e).2⟩, h.be.grown hg h.be.size (fun o e => own_lt hx o e)⟩
end
theorem OL.made (B : Nat) (F : Nat → Prop) (w : World) (hB : B ≤ w.heap.size) : OL B F (w.alloc (.cells #[] 74)) (some ⟨w.heap.size, 0, none⟩) 0 [] := ⟨[], own_base (own_nil0 w _) hB, fun _ => none, fun _ => 0, fun i hi => absurd hi (by simp), fun i j hi => absurd hi (by simp)⟩
set_option maxHeartbeats 4000000 in
theorem specChains_any {w : World} {p g n z E d t N cS : Nat} {u : Nat → UInt8} (h : ChW w p g n z E d t N cS u) (hn : n ≤ 128) (hNz : z + n ≤ N) (hN : N ≤ 4096) (hcN : N ≤ cS) (hE : E ≤ 16) (hd : d = dirN n z) (ht : t ≤ n) (hfit : ∀ k, k < E → d * z + k * 12 + 12 ≤ N) (hLn : ∀ x, x ∈ lostN (ownsN n z t u E) u z t (n - t) → x < n) (hLl : (lostN (ownsN n z t u E) u z t (n - t)).length ≤ 128) :
    Calls Tryz.prog 46 #[.pointer (some ⟨p, 0, none⟩)] w fun r w' => ∃ A c, r = .returned (.slice A (chainsC (lostN (ownsN n z t u E) u z t (n - t)) (lkN z u)).length c) ∧ OL w.heap.size (fun o => o < w'.heap.size) w' A c (chainsC (lostN (ownsN n z t u E) u z t (n - t)) (lkN z u)) ∧ Below w.heap.size w w' := by
  have HLO := Lib.hid (specLost_any h hn hNz hN hcN hE hd ht hfit)
  have HH := Lib.hid h
  obtain ⟨L, hL⟩ : ∃ L, lostN (ownsN n z t u E) u z t (n - t) = L := ⟨_, rfl⟩
  rw [hL] at HLO hLn hLl ⊢
  obtain ⟨lk, hlk⟩ : ∃ lk, lkN z u = lk := ⟨_, rfl⟩
  have hlk2 : ∀ a, (u (z + a)).toNat = lk a := fun a => by rw [← hlk]; rfl
  have hlk3 : ∀ a, lk a < 256 := fun a => by rw [← hlk2 a]; exact UInt8.toNat_lt _
  rw [hlk]
  have HLN := Lib.hid hLn
  have HLK := Lib.hid hlk2
  have HL3 := Lib.hid hlk3
  clear h hfit hd hL hlk hLn hlk2 hlk3
  go_enter Tryz.func46, Tryz.ntmps46
  go_upto_region 2 with (go_at_call 88; refine HLO.out.mono ?_; rintro r w1 ⟨Al, cl, rfl, hi1, hb1⟩)
  have hz1 := hb1.size
  have hu0 := own_base (own_nil0 w1 2) hz1
  have HU0 : Hid (IntsR w.heap.size (w1.alloc (.cells #[] 2)) (some ⟨w1.heap.size, 0, none⟩) 0 []) := Lib.hid hu0
  have hal := (Below.refl w1.heap.size w1).alloc (Nat.le_refl _) (.cells #[] 2)
  have hal2 := (Below.refl (w1.alloc (.cells #[] 2)).heap.size (w1.alloc (.cells #[] 2))).alloc (Nat.le_refl _) (.cells #[] 74)
  have hsz : (w1.alloc (.cells #[] 2)).heap.size = w1.heap.size + 1 := by simp
  have hol := OL.made w.heap.size (fun o => o < w1.heap.size ∧ some o ≠ (Value.slice (some ⟨w1.heap.size, 0, none⟩) ([] : List Nat).length 0).ownBlock) (w1.alloc (.cells #[] 2)) (by omega)
  have HST0 : Hid (StS w ((w1.alloc (.cells #[] 2)).alloc (.cells #[] 74)) L Al cl w1.heap.size (some ⟨w1.heap.size, 0, none⟩) 0 [] (some ⟨w1.heap.size + 1, 0, none⟩) 0 []) := Lib.hid (by
    rw [hsz] at hol
    exact ⟨hol, by simp; omega, hz1, (hi1.below hal).below hal2, HU0.out.below hal2, fun o e => ⟨own_ltW hi1 o e, fun e2 => by have := own_ltW hi1 o e; simp [Value.ownBlock] at e2; omega⟩, (hb1.alloc hz1 _).alloc (by simp; omega) _⟩)
  have hbs := hb1.size
  clear hi1 hb1 hu0 hal hal2 hol
  go_upto_region 4 with fail
  generalize (w1.alloc (.cells #[] 2)).alloc (.cells #[] 74) = W1 at *
  generalize w1.heap.size = q1 at *
  go_wp2_with fail
  go_loopw [4, 5, 6] (fun s4 s5 s6 wr => ∃ (ps cu c H : Nat) (Au A : Option Addr), ps ≤ 2 ∧ s6 = .int .i64 ps ∧ s4 = .slice Au (sB L lk ps).1.length cu ∧ s5 = .slice A (sB L lk ps).2.length c ∧ StS w wr L Al cl H Au cu (sB L lk ps).1 A c (sB L lk ps).2) (fun _ _ s _ => 2 - (intOf s).toNat)
  case atStart => exact ⟨0, 0, 0, q1, _, _, by omega, rfl, rfl, rfl, HST0.out⟩
  case round =>
    obtain ⟨ps, cu, c, H, Au, A, hps, rfl, rfl, rfl, hst⟩ := hrel
    have HST0 := Lib.hid hst
    have hU := sB_ok (lk := lk) HLN.out ps
    have HU0 := Lib.hid hU
    by_cases hlt : ps < 2
    · obtain ⟨rest, hrest⟩ : ∃ rest, decide (ps = 1) = rest := ⟨_, rfl⟩
      obtain ⟨S0, hS0⟩ : ∃ S0, sB L lk ps = S0 := ⟨_, rfl⟩
      have HS1 := Lib.hid (show sB L lk (ps + 1) = passC L lk rest S0 L.length by rw [sB, hrest, hS0])
      rw [hS0] at HST0 HU0
      have hp0 : ((ps : Int) == 0) = !rest := by rw [← hrest]; rcases (show ps = 0 ∨ ps = 1 by omega) with rfl | rfl <;> rfl
      clear hst hU hrest
      rw [hS0]
      clear hS0
      go_upto_region 8 with fail
      rw [show decide ((ps : Int) < 2) = true by simp; omega]
      have HLT := Lib.hid hlt
      clear hlt
      go_loopw [4, 5, 7] (fun s4 s5 s7 wr => ∃ (i cu c H : Nat) (Au A : Option Addr), i ≤ L.length ∧ s7 = .int .i64 i ∧ s4 = .slice Au (passC L lk rest S0 i).1.length cu ∧ s5 = .slice A (passC L lk rest S0 i).2.length c ∧ StS w wr L Al cl H Au cu (passC L lk rest S0 i).1 A c (passC L lk rest S0 i).2) (fun _ _ s _ => L.length - (intOf s).toNat)
      case atStart => exact ⟨0, cu, c, H, Au, A, by omega, rfl, rfl, rfl, HST0.out⟩
      case round =>
        obtain ⟨i, cu, c, H, Au, A, hi, rfl, rfl, rfl, hst⟩ := hrel
        have HST1 := Lib.hid hst
        have HU1 := Lib.hid (HU0.out.pass (lk := lk) (rest := rest) HLN.out i hi)
        obtain ⟨S, hS⟩ : ∃ S, passC L lk rest S0 i = S := ⟨_, rfl⟩
        rw [hS] at hst HST1 HU1
        rw [hS]
        have HS := Lib.hid hS
        by_cases hli : i < L.length
        · have hSL := hst.lo.sl
          obtain ⟨qi, oi, rfl, hqi, hci⟩ := hSL i hli
          have HSL := Lib.hid hSL
          dsimp only at hci
          have hbx := getD_memL hli
          have hxn := HLN.out _ hbx
          have HBX := Lib.hid hbx
          obtain ⟨x, hx⟩ : ∃ x, L.getD i 0 = x := ⟨_, rfl⟩
          have HXI := Lib.hid hx
          rw [hx] at hci hbx hxn HBX
          have HX := Lib.hid (show passC L lk rest S0 (i + 1) = stepC L lk rest x S by rw [passC, hx, hS])
          have HBE := Lib.hid hst.be
          have HCW := Lib.hid (HH.out.below hst.be)
          clear hst hx hS hbx hSL
          have HCM := Lib.hid (fun (W : World) (m : Nat) (e : W = wr.drewN m) => (show ChW W p g n z E d t N cS u from e ▸ HCW.out.below ((Below.refl _ _).drewN m)))
          have HSM := Lib.hid (fun (W : World) (m : Nat) (e : W = wr.drewN m) (k : Nat) (hk : k < L.length) => (show W.cell? ⟨qi, oi + k, none⟩ = some (.int .i64 ((L.getD k 0 : Nat) : Int)) by
            obtain ⟨qk, ok, hqk, hqk2, hck⟩ := HSL.out k hk
            injection hqk with hqk
            injection hqk with e1 e2 _
            subst e1 e2 e
            exact hck))
          go_upto_block 4 with fail
          have HLI := Lib.hid hli
          have hLp : 0 < L.length := by omega
          clear hli
          go_cut [8] (fun s8 wx => ∃ (ld : Bool) (m : Nat), s8 = .bool ld ∧ (ld = true ↔ (rest = false ∧ ledN L lk x L.length)) ∧ wx = wr.drewN m)
          case first =>
            have hp1 := hp0
            have hC0 := HSL.out
            have HLQ := Lib.hid (fun (W : World) (hC : ChW W p g n z E d t N cS u) (a : Nat) (ha : a < n) => (specLink_any a hC (by omega) (by omega)).mono fun r w' hh => (show r = .returned (.int .i64 (lk a : Int)) ∧ ∃ m, w' = W.drewN m from ⟨by rw [hh.1, HLK.out], 1, hh.2⟩))
            clear hp0
            go_wp2_with fail
            go_loopw [8, 9] (fun s8 s9 wy => ∃ (k m : Nat) (ld : Bool), k ≤ L.length ∧ s9 = .int .i64 k ∧ s8 = .bool ld ∧ (ld = true ↔ (rest = false ∧ ledN L lk x k)) ∧ (rest = true → k = 0) ∧ wy = wr.drewN m) (fun _ s _ => L.length - (intOf s).toNat)
            case atStart => exact ⟨0, 0, false, by omega, rfl, rfl, ⟨fun h => by simp at h, fun ⟨_, j, hj, _⟩ => absurd hj (by omega)⟩, fun _ => rfl, rfl⟩
            case round =>
              obtain ⟨k, m, ld, hk, rfl, rfl, hld, hk0, hwm⟩ := hrel
              have HWM := Lib.hid hwm
              have hci := HSM.out _ m hwm i HLI.out
              rw [HXI.out] at hci
              have HCN := Lib.hid (HCM.out _ m hwm)
              clear hwm
              have HLD := Lib.hid hld
              have HK0 := Lib.hid hk0
              clear hld hk0
              cases rest with
              | true =>
                have hp2 : ((ps : Int) == 0) = false := hp1
                obtain rfl := HK0.out rfl
                have HP1 := Lib.hid hp1
                clear hp1 HLQ
                go_wp2_with fail
                go_meet
                exact ⟨ld, m, rfl, by have := HLD.out; simpa using this, HWM.out⟩
              | false =>
                have hp2 : ((ps : Int) == 0) = true := hp1
                by_cases hkl : k < L.length
                · have hck := HSM.out _ m HWM.out k hkl
                  have hyn := HLN.out _ (getD_memL hkl)
                  obtain ⟨y, hy⟩ : ∃ y, L.getD k 0 = y := ⟨_, rfl⟩
                  rw [hy] at hck hyn
                  have HY := Lib.hid hy
                  clear hy
                  cases ld with
                  | true =>
                    clear hp1
                    go_wp2_with fail
                    go_quiet (fail)
                    go_wp2_with fail
                    go_roundw
                    case rel => exact ⟨k + 1, m + nq, true, by omega, by go_num, rfl, ⟨fun _ => ⟨trivial, by obtain ⟨j, hj, e⟩ := (HLD.out.1 trivial).2; exact ⟨j, by omega, e⟩⟩, fun _ => rfl⟩, fun h => by simp at h, by rw [HWM.out, World.drewN_drewN]⟩
                    case measure => simp [intOf]; omega
                  | false =>
                    clear hp1
                    go_wp2_with fail
                    have hli := HLI.out
                    go_quiet ((go_at_call 79; exact Calls.quiet_of (HLQ.out _ (HCN.out.below ((Below.refl _ _).drewN _)) y hyn)))
                    go_wp2_with fail
                    go_roundw
                    case rel =>
                      refine ⟨k + 1, m + nq, _, by omega, by go_num, rfl, ⟨fun h => ⟨trivial, k, by omega, ?_⟩, ?_⟩, fun h => by simp at h, by rw [HWM.out, World.drewN_drewN]⟩
                      · rw [HY.out]
                        simp at h
                        omega
                      · rintro ⟨_, j, hj, e⟩
                        by_cases hjk : j = k
                        · subst hjk
                          rw [HY.out] at e
                          simp [e]
                        · have h3 := HLD.out.2 ⟨by trivial, j, by omega, e⟩
                          simp at h3
                    case measure => simp [intOf]; omega
                · obtain rfl : k = L.length := by omega
                  clear hp1
                  go_wp2_with fail
                  go_meet
                  exact ⟨ld, m, rfl, by have := HLD.out; simpa using this, HWM.out⟩
          case rest =>
            obtain ⟨ld, m, rfl, hld, rfl⟩ := hcut
            have HCD := Lib.hid (HCM.out _ m rfl)
            have HSD := Lib.hid (HST1.out.below ((Below.refl _ _).drewN m))
            have HSL2 := Lib.hid (HSD.out.lo.sl)
            have HUS2 := Lib.hid (HSD.out.uo.sl)
            have hci := HSM.out _ m rfl i HLI.out
            rw [HXI.out] at hci
            have HLD := Lib.hid hld
            have hub := HU1.out.bound
            obtain ⟨W2, hW2⟩ : ∃ W2, wr.drewN m = W2 := ⟨_, rfl⟩
            rw [hW2] at HCD HSD HSL2 HUS2 hci ⊢
            clear hld hW2
            have hli := HLI.out
            have HUM := Lib.hid (l00Has_any (fun i => ((S.1.getD i 0 : Nat) : Int)) (x : Int) HUS2.out (c := cu) (by omega))
            rw [hasZ_mem] at HUM
            obtain ⟨b2, hb2⟩ : ∃ b2, decide (x ∈ S.1) = b2 := ⟨_, rfl⟩
            rw [hb2] at HUM
            have HSK := Lib.hid (show (ld || b2) = true ↔ (x ∈ S.1 ∨ (rest = false ∧ ledN L lk x L.length)) by
              rw [← hb2, Bool.or_eq_true, HLD.out, decide_eq_true_iff]
              exact Or.comm)
            clear hb2
            go_upto_region 15 with fail
            go_cut [57] (fun s57 wx => s57 = .bool (ld || b2) ∧ wx = W2)
            case first =>
              cases ld <;> cases b2 <;>
                (go_wp2_with (go_at_call 85; refine HUM.out.mono ?_; rintro e w2 ⟨rfl, rfl⟩)
                 go_meet
                 exact ⟨rfl, rfl⟩)
            case rest =>
              obtain ⟨rfl, rfl⟩ := hcut
              obtain ⟨sk, hsk⟩ : ∃ sk, (ld || b2) = sk := ⟨_, rfl⟩
              rw [hsk] at HSK ⊢
              clear hsk
              cases sk with
              | true =>
                have HSN := Lib.hid (show passC L lk rest S0 (i + 1) = S by rw [HX.out]; unfold stepC; rw [if_pos (HSK.out.1 rfl)])
                go_wp2_with fail
                go_roundw
                case rel => exact ⟨i + 1, cu, c, H, Au, A, by omega, by go_num, by rw [HSN.out], by rw [HSN.out], by rw [HSN.out]; exact HSD.out⟩
                case measure => simp [intOf]; omega
              | false =>
                have hns : ¬ (x ∈ S.1 ∨ (rest = false ∧ ledN L lk x L.length)) := fun h => by have := HSK.out.2 h; simp at this
                have HSN := Lib.hid (show passC L lk rest S0 (i + 1) = (S.1 ++ flwA L lk S.1 x, S.2 ++ [flwA L lk S.1 x]) by rw [HX.out]; unfold stepC; rw [if_neg hns])
                have HUN := Lib.hid (HU1.out.step (lk := lk) (rest := rest) HLN.out (b := x) HBX.out)
                have HFP := Lib.hid (flwA_pos (lk := lk) (used := S.1) (a := x) ⟨HBX.out, fun h => hns (.inl h)⟩)
                have HFW := Lib.hid (specFollow_any (c1 := cl) (c2 := cu) (A1 := some ⟨qi, oi, none⟩) (A2 := Au) (lk := lk) x (by omega) HCD.out hn hNz hN HLN.out hLl (by omega : S.1.length ≤ 128) HLK.out HL3.out HSL2.out HUS2.out)
                have HSE := Lib.hid (HSD.out.more HSD.out.hh (Nat.le_refl _))
                obtain ⟨Y, hY⟩ : ∃ Y, flwA L lk S.1 x = Y := ⟨_, rfl⟩
                rw [hY] at HSN HFP HFW
                have HFY := Lib.hid (show Y.length ≤ n by rw [← hY]; exact (flw_ok (lk := lk) (used := S.1) HLN.out 129 [] x (FlwOk.nil n L S.1)).len)
                have hbe := HSD.out.be.size
                clear hns hY
                go_upto_region 17 with (go_at_call 89; refine HFW.out.mono ?_; rintro r w2 ⟨Ay, cy, rfl, hiy, hby⟩)
                have HIY := Lib.hid hiy
                have HSF := Lib.hid (HSE.out.below hby)
                have hby2 := hby.size
                have hfy := HFY.out
                clear hiy hby
                go_upto_region 18 with (at_builtin; refine wpList_appendL (.tmp 66) (.tmp 67) 74 (.int .i64 0) 8 w.heap.size HSF.out.uo (HIY.out.base hbe) HFP.out rfl rfl Tryz.underlying74 infoI64 rfl rfl rfl (by omega) (by omega) (by omega) ?_; intro A' c' w3 ho3 hg3 hq3)
                have huse := HSF.out.use (fun o e => own_ltW HSE.out.uo o e) HIY.out ho3 hg3 hq3
                obtain ⟨xs0, hx0⟩ := huse.1.ol.row
                have HX0 := Lib.hid hx0
                have HUS := Lib.hid huse
                have hb3 := huse.1.be.size
                clear ho3 hg3 hq3 huse hx0
                go_upto_region 9 with (at_builtin; refine wpList_pushG (.tmp 69) (.tmp 71) 69 w.heap.size 74 (.slice none 0 0) _ 24 _ S.2.length _ HX0.out rfl rfl Tryz.underlying69 infoL64 rfl rfl rfl rfl rfl (by omega) (by omega) hb3 ?_; intro A2 c2 w4 ho4 hg4)
                have HS4 := Lib.hid (HUS.out.1.push HUS.out.2.1 HUS.out.2.2 HX0.out ho4 hg4)
                clear ho4 hg4
                go_wp2_with fail
                go_roundw
                case rel =>
                  exact ⟨i + 1, c', c2, w4.heap.size, A', some A2, by omega, by go_num, by rw [HSN.out]; simp, by rw [HSN.out]; simp, by rw [HSN.out]; exact HS4.out⟩
                case measure => simp [intOf]; omega
        · obtain rfl : i = L.length := by omega
          clear hst
          have hlt := HLT.out
          go_wp2_with fail
          go_roundw
          case rel => exact ⟨ps + 1, cu, c, H, Au, A, by omega, by go_num, by rw [HS1.out, HS.out], by rw [HS1.out, HS.out], by rw [HS1.out, HS.out]; exact HST1.out⟩
          case measure => simp [intOf]; omega
    · obtain rfl : ps = 2 := by omega
      clear hst hU
      go_wp2_with fail
      go_ret
      have hcc : chainsC L lk = (sB L lk 2).2 := rfl
      rw [hcc]
      exact ⟨A, c, rfl, HST0.out.ol.more (fun o ho => Nat.lt_of_lt_of_le ho.1 HST0.out.hh), HST0.out.be⟩
end Go.Proofs.YtapkckpjeoedaaaGreatDoor
