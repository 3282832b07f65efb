/-
  Tracks: the reference's writer of a track.
-/
import Derived.Test.YtabmdbhbbmnkdaaDoorBsF
namespace Go.Proofs.YtabmdbhbbmnkdaaDoor
open Go Go.ChangeShapes Go.WideShapes Go.ChangeAt Go.RowKit Go.Joins lib
set_option linter.unusedVariables false
set_option linter.unusedSimpArgs false
set_option maxRecDepth 100000
theorem step_strW {P : Program} {ops : Array Oper} {o : Oper} {a : Act} {w : World} {K : Act → World → Prop} {Q : Exit → Act → World → Prop} {E : Prop} (hgd : o.guard = none) (s x : Operand) (t u : TypeId)
    (ho : o.op = .call { callee := .builtin .append, args := #[s, x], argTypes := #[t, u] }) (base : Nat) (e : TypeId) (i : TypeInfo) (ht : P.underlying t = some (.slice e)) (hu : P.underlying u = some .string) (hi : P.info? e = some i)
    (hz : i.zero = some (.int .u8 0)) (hsize : i.size = 1) (hby : i.bytes = 1) (v : Value) (n : Nat) (xs : List UInt8) (hs : a.eval s = v) (hown : w.ownsRow base e 1 v n (bytesV xs)) (str : ByteArray) (hx : a.eval x = .string str)
    (n' : Nat) (hn' : n + str.size = n') (h63 : n' ≤ 1099511627776) (hbase : base ≤ w.heap.size) (hpos : 0 < str.size)
    (h : ∀ g cap w', w'.ownsRow base e 1 (.slice (some ⟨g, 0, none⟩) n' cap) n' (bytesV (xs ++ str.data.toList)) → w.grownBy w' v.ownBlock → K (a.put o.dst (.slice (some ⟨g, 0, none⟩) n' cap)) w') :
    if Region.wanted o (yielded ops a.tmps) = true then Oper.wp P o a w K Q else E := by
  have hw : Region.wanted o (yielded ops a.tmps) = true := by simp [Region.wanted, hgd]
  rw [if_pos hw]
  subst hn'
  obtain ⟨v', w', hrun, hown', hg, _⟩ := Lib.run_append_own_string (P := P) w base t u o.type e i ht hu hi hz hsize hby v n (bytesV xs) hown str (by simp only [maxLen]; omega) (by omega) hbase
  obtain ⟨g, cap, rfl, _, _⟩ := hown'.form (by omega)
  unfold Oper.wp
  simp [execOp, ho, resolve, invoke, builtin, hs, hx, hrun, Result.andThen]
  refine h _ _ _ ?_ hg
  unfold bytesV at *
  rw [List.map_append]
  exact hown'
/-- the reference's writer in a block of its own -/
def RWS (B b f : Nat) (s : WS) (w : World) : Prop :=
  B ≤ b ∧ ∃ A c, w.heap[b]? = some (.cells #[.int .i64 (f : Int), .slice A s.2.length c, .bool s.1] 88 (0, 0)) ∧ w.ownsRow B 5 1 (.slice A s.2.length c) s.2.length (bytesV s.2) ∧ (Value.slice A s.2.length c).ownBlock ≠ some b
theorem RWS.lt {B b f : Nat} {s : WS} {w : World} (h : RWS B b f s w) : b < w.heap.size := by
  obtain ⟨_, A, c, hb, _⟩ := h
  rcases Nat.lt_or_ge b w.heap.size with h' | h'
  · exact h'
  · simp [Array.getElem?_eq_none h'] at hb
theorem RWS.below {B b f : Nat} {s : WS} {w w' : World} (h : RWS B b f s w) (hb : Below w.heap.size w w') : RWS B b f s w' := by
  have hlt := h.lt
  obtain ⟨h1, A, c, h2, h3, h4⟩ := h
  exact ⟨h1, A, c, (hb.block b hlt).trans h2, own_below h3 hb, h4⟩
theorem RWS.cell0 {B b f : Nat} {s : WS} {w : World} (h : RWS B b f s w) : w.cell? ⟨b, 0, none⟩ = some (.int .i64 (f : Int)) := by
  obtain ⟨_, A, c, hb, _⟩ := h
  rw [Lib.cell_of_heap hb]; rfl
theorem RWS.cell2 {B b f : Nat} {s : WS} {w : World} (h : RWS B b f s w) : w.cell? ⟨b, 2, none⟩ = some (.bool s.1) := by
  obtain ⟨_, A, c, hb, _⟩ := h
  rw [Lib.cell_of_heap hb]; rfl
theorem RWS.frozen {B b f : Nat} {s : WS} {w : World} (h : RWS B b f s w) (k : Nat) : w.frozen? ⟨b, k, none⟩ = false := by
  obtain ⟨_, A, c, hb, _⟩ := h
  exact Lib.frozen_of_heap hb k
theorem RWS.setLast {B b f : Nat} {s : WS} {w : World} (h : RWS B b f s w) (x : Bool) : RWS B b f (x, s.2) (w.setCell ⟨b, 2, none⟩ (.bool x)) := by
  obtain ⟨hB, A, c, hb, hown, hne⟩ := h
  refine ⟨hB, A, c, ?_, ?_, hne⟩
  · simp [World.setCell, Array.getElem?_modify, hb]
  · exact hown.kept (row := some b) ⟨rfl, rfl, rfl, by simp [World.setCell], fun k _ hk => Below.heap_setCell _ _ _ _ (fun e => hk (by simp [e]))⟩ (Or.inr hne)
/-- what is appended is stored back -/
theorem RWS.put {B b f : Nat} {last : Bool} {l l' : List UInt8} {A : Option Addr} {c g cap n' : Nat} {w w3 : World} (hB : B ≤ b) (hb : w.heap[b]? = some (.cells #[.int .i64 (f : Int), .slice A l.length c, .bool last] 88 (0, 0))) (hne : (Value.slice A l.length c).ownBlock ≠ some b)
    (ho : w3.ownsRow B 5 1 (.slice (some ⟨g, 0, none⟩) n' cap) n' (bytesV l')) (hg : w.grownBy w3 (Value.slice A l.length c).ownBlock) (hn : l'.length = n') : RWS B b f (last, l') (w3.setCell ⟨b, 1, none⟩ (.slice (some ⟨g, 0, none⟩) n' cap)) := by
  have hlt : b < w.heap.size := (Array.getElem?_eq_some_iff.1 hb).1
  have hb3 : w3.heap[b]? = some (.cells #[.int .i64 (f : Int), .slice A l.length c, .bool last] 88 (0, 0)) := (hg.block b hlt (fun e => hne e.symm)).trans hb
  subst hn
  have hne2 : (Value.slice (some ⟨g, 0, none⟩) l'.length cap).ownBlock ≠ some b := Lib.ownBlock_ne ho hb3 (by decide)
  refine ⟨hB, some ⟨g, 0, none⟩, cap, ?_, ?_, hne2⟩
  · simp [World.setCell, Array.getElem?_modify, hb3]
  · exact ho.kept (row := some b) ⟨rfl, rfl, rfl, by simp [World.setCell], fun k _ hk => Below.heap_setCell _ _ _ _ (fun e => hk (by simp [e]))⟩ (Or.inr hne2)
set_option maxHeartbeats 4000000 in
theorem rwBytes_any {B b f : Nat} (hf : f123 f) {s : WS} (t : ByteArray) (ht : t.size ≤ 64) (ht0 : t.size ≠ 0) {w : World} (h : RWS B b f s w) (hl : s.2.length ≤ 65536) (hBw : B ≤ w.heap.size) :
    Calls Tryd.prog 51 #[.pointer (some ⟨b, 0, none⟩), .string t] w fun e w' => e = .returned (.tuple #[]) ∧ RWS B b f (wBytes f s t.data.toList) w' ∧ Below B w w' := by
  obtain ⟨i0, hi0, hi1, hi2, hi3⟩ := info_parts infoU8T
  obtain ⟨last, l⟩ := s
  simp only at hl
  have hlt := h.lt
  obtain ⟨hBb, A, c, hbk, hown, hne⟩ := h
  simp only at hbk hown hne
  have hen := encF3_len f last t.data.toList
  have hnn := encF3_ne f hf last t.data.toList (by
    intro e
    have h3 : t.data.toList.length = t.size := rfl
    rw [e] at h3
    simp at h3
    omega)
  have hlen : t.data.toList.length = t.size := rfl
  have HE := Lib.hid (fun W => specEncode_any f hf t last (by omega) (f : Int) rfl W)
  have hwb : wBytes f (last, l) t.data.toList = (lastY t.data.toList, l ++ encF3 f last t.data.toList) := rfl
  rw [hwb]
  -- the last byte
  obtain ⟨n, hn⟩ : ∃ n, t.size = n + 1 := ⟨t.size - 1, by omega⟩
  have hg := byteAt_get t n (by rw [hn]; exact Nat.lt_succ_self n)
  obtain ⟨y, hy⟩ : ∃ y, byteAt t n = y := ⟨_, rfl⟩
  have HL := Lib.hid (show lastY t.data.toList = (y.toNat % 2 == 1) by
    have hl : t.data.toList.length = n + 1 := hn
    unfold lastY
    rw [List.getLast?_eq_getElem?, hl, Nat.add_sub_cancel, ← hy]
    unfold byteAt
    rw [List.getD_eq_getElem?_getD])
  rw [hy] at hg
  clear hy hwb
  have e0 : t.toList.isEmpty = false := by
    rw [Bool.eq_false_iff]
    intro h
    rw [List.isEmpty_iff, Lib.toList_data] at h
    have h3 := congrArg List.length h
    have h4 : t.data.toList.length = n + 1 := hn
    rw [h4] at h3
    simp at h3
  have e0' : t.toList ≠ [] := by
    intro h
    rw [h] at e0
    simp at e0
  have hbb : bits .and .u8 (y.toNat : Int) 1 = ((y.toNat % 2 : Nat) : Int) := by
    have := u8_low ⟨_, y.toNat_lt⟩
    simpa using this
  have hki2 : (n : Int) + 1 - 1 = (n : Int) := by omega
  have hlt2 : (n : Int) < (t.size : Int) := by omega
  have e1 : (((y.toNat % 2 : Nat) : Int) == 1) = lastY t.data.toList := by
    rw [HL.out, Bool.eq_iff_iff]
    simp
    omega
  obtain ⟨x, hx⟩ : ∃ x, y.toNat % 2 = x := ⟨_, rfl⟩
  rw [hx] at e1 hbb
  clear hx
  obtain ⟨LY, hLY⟩ : ∃ LY, lastY t.data.toList = LY := ⟨_, rfl⟩
  rw [hLY] at e1 ⊢
  obtain ⟨E, hE⟩ : ∃ E, encF3 f last t.data.toList = E := ⟨_, rfl⟩
  rw [hE] at HE hen hnn ⊢
  obtain ⟨ES, hES⟩ : ∃ ES, strL E = ES := ⟨_, rfl⟩
  have hez : ES.size = E.length := by rw [← hES, strL_size]
  have HED := Lib.hid (show ES.data.toList = E by rw [← hES, strL_list])
  rw [hES] at HE
  have hpos : 0 < E.length := by
    rcases Nat.eq_zero_or_pos E.length with h0 | h0
    · exact absurd (List.length_eq_zero_iff.1 h0) hnn
    · exact h0
  obtain ⟨n1, hn1⟩ : ∃ n1, l.length + ES.size = n1 := ⟨_, rfl⟩
  have HN1 := Lib.hid hn1
  have hn1b : n1 ≤ 70000 := by omega
  have HEP := Lib.hid (show 0 < ES.size by omega)
  have c0 : w.drew.cell? ⟨b, 0, none⟩ = some (.int .i64 (f : Int)) := by
    have : w.drew.heap[b]? = _ := hbk
    rw [Lib.cell_of_heap this]; rfl
  have c1 : w.drew.cell? ⟨b, 1, none⟩ = some (.slice A l.length c) := by
    have : w.drew.heap[b]? = _ := hbk
    rw [Lib.cell_of_heap this]; rfl
  have c2 : w.drew.cell? ⟨b, 2, none⟩ = some (.bool last) := by
    have : w.drew.heap[b]? = _ := hbk
    rw [Lib.cell_of_heap this]; rfl
  have HBK := Lib.hid hbk
  have HO := Lib.hid hown
  have HNE := Lib.hid hne
  obtain ⟨L, hL⟩ : ∃ L, l.length = L := ⟨_, rfl⟩
  have HLL := Lib.hid hL
  rw [hL] at HBK HO HNE c1 hl HN1
  clear hbk hown hne hen hnn hLY hE hES hez hpos hn1 hL HL hlen
  go_enter Tryd.func51, Tryd.ntmps51
  go_wp2_with fail
  go_region_law ((first
    | (go_simp; go_at_call 84; refine (HE.out _).mono ?_; rintro e w1 ⟨rfl, hb1⟩; have HB1 := Lib.hid (show Below w.heap.size w w1 from (Below.refl _ _).drew.trans hb1); have d1 : w1.cell? ⟨b, 1, none⟩ = some (.slice A L c) := (hb1.cell (p := ⟨b, 1, none⟩) hlt).trans c1; clear hb1)
    | (refine step_strW rfl (.tmp 10) (.tmp 20) 22 9 rfl B 5 i0 Tryd.underlying22 Tryd.underlying9 hi0 hi1 hi2 hi3 (.slice A L c) L l (by rfl) (own_below HO.out HB1.out) ES (by rfl) n1 HN1.out (by omega) (Nat.le_trans hBw HB1.out.size) HEP.out ?_; intro gg cap w3 ho3 hg3; have HO3 := Lib.hid ho3; have HG3 := Lib.hid hg3; have hb3 : w3.heap[b]? = some (.cells #[.int .i64 (f : Int), .slice A L c, .bool last] 88 (0, 0)) := (hg3.block b (Nat.lt_of_lt_of_le hlt HB1.out.size) (fun e => HNE.out e.symm)).trans ((HB1.out.block b hlt).trans HBK.out); have q1 : w3.cell? ⟨b, 1, none⟩ = some (.slice A L c) := (by rw [Lib.cell_of_heap hb3]; rfl); have f1 : w3.frozen? ⟨b, 1, none⟩ = false := Lib.frozen_of_heap hb3 1; clear ho3 hg3 hb3)))
  all_goals
    have HR4 := Lib.hid (RWS.put (f := f) (last := last) (l := l) (l' := l ++ ES.data.toList) hBb (w := w1) (A := A) (c := c) (w3 := w3) (g := gg) (cap := cap) (n' := n1) (by rw [HLL.out]; exact (HB1.out.block b hlt).trans HBK.out) (by rw [HLL.out]; exact HNE.out) HO3.out (by rw [HLL.out]; exact HG3.out) (by rw [List.length_append, HLL.out]; exact HN1.out))
    have HB4 := Lib.hid (show Below B w (w3.setCell ⟨b, 1, none⟩ (.slice (some ⟨gg, 0, none⟩) n1 cap)) from ((HB1.out.mono hBw).trans (below_grown HG3.out (own_lt (own_below HO.out HB1.out)) (Nat.le_trans hBw HB1.out.size))).setCell (p := ⟨b, 1, none⟩) hBb _)
    generalize w3.setCell ⟨b, 1, none⟩ (.slice (some ⟨gg, 0, none⟩) n1 cap) = W4 at *
    have k2 := HR4.out.cell2
    have kf := HR4.out.frozen 2
    go_wp2_with fail
    go_end0
    have hr5 := HR4.out.setLast LY
    simp only [HED.out] at hr5
    exact ⟨rfl, hr5, HB4.out.setCell (p := ⟨b, 2, none⟩) hBb _⟩
end Go.Proofs.YtabmdbhbbmnkdaaDoor
