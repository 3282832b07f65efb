/-
  The reference's source of choices: bytes, files.
-/
import Derived.Test.YtdofpkdemmngeaaDrS
import Derived.Test.YtdofpkdemmngeaaXmPush
import Derived.Test.YtdofpkdemmngeaaAppR
namespace Go.Proofs.Ytdofpkdemmngeaa
open Go Go.ChangeShapes Go.WideShapes Go.ChangeAt Go.RowKit lib
set_option linter.unusedVariables false
set_option linter.unusedSimpArgs false
set_option maxRecDepth 100000
theorem only_moreS {w wr w' : World} {mb : Nat} {row : Option Nat} (h : w.grownBy wr (some mb)) (hb : wr.grownBy w' row) (hr : ∀ q, row = some q → w.heap.size ≤ q ∨ q = mb) : w.grownBy w' (some mb) :=
  ⟨hb.os.trans h.os, hb.tape.trans h.tape, hb.output.trans h.output, Nat.le_trans h.size hb.size, fun i hi hne => (hb.block i (Nat.lt_of_lt_of_le hi h.size) (fun e => by
    rcases hr i e.symm with h1 | h1
    · omega
    · exact hne (by rw [h1]))).trans (h.block i hi hne)⟩
theorem only_belowS {w wr w' : World} {mb : Nat} (h : w.grownBy wr (some mb)) (hb : Below wr.heap.size wr w') : w.grownBy w' (some mb) := only_moreS h (only_below hb (Nat.le_refl _) none) (fun q e => by cases e)
theorem own_src {w w' : World} {B e k n p : Nat} {v : Value} {xs : List Value} (h : w.ownsRow B e k v n xs) (hg : w.grownBy w' (some p)) (hp : p < B) : w'.ownsRow B e k v n xs := h.kept hg (by
  cases hv : v.ownBlock with
  | none => exact .inl rfl
  | some q =>
    have := (h.lt q hv).1
    exact .inr (by simp; omega))
def slLen : Value → Nat
  | .slice _ n _ => n
  | _ => 0
theorem u8w {v : Nat} (h : v < 256) : IntKind.u8.wrap (v : Int) = (v : Int) := by rw [IntKind.wrap_u8]; omega
theorem u8_wrap (x : Int) : ∃ y : Nat, y < 256 ∧ IntKind.u8.wrap x = (y : Int) := by
  rw [IntKind.wrap_u8]
  exact ⟨(x % 256).toNat, by omega, by omega⟩
theorem infoU8 : (Try.prog.info? 5).map (fun i => (i.zero, i.size, i.bytes)) = some (some (.int .u8 0), 1, 1) := by kernel_rfl
def byV (us : List Nat) : List Value := us.map fun (y : Nat) => Value.int .u8 (y : Int)
theorem sl_lit {w : World} {e m : Nat} {f : Nat → Value} (cs : Array Value) (hf : ∀ i, i < m → cs[i]? = some (f i)) : Sl (w.alloc (.cells cs e)) (w.alloc (.cells cs e)).heap.size (some ⟨w.heap.size, 0, none⟩) m f := (Rw.new w e cs).sl hf
theorem run_byV {W : World} {B k c : Nat} {A : Option Addr} {us : List Nat} (hl : us.length = k) (hu : ∀ y, y ∈ us → y < 256) (ho : W.ownsRow B 5 1 (.slice A k c) k (byV us)) : ∃ x : ByteArray, x.size = k ∧ (convert 22 9 (.slice A k c)).run Try.prog W = .ok (.string x) W := by
  have hs : Sl W W.heap.size A k (fun i => .int .u8 (((UInt8.ofNat (us.getD i 0)).toNat : Nat) : Int)) := by
    have h1 := own_sl ho
    rw [Nat.mul_one] at h1
    refine h1.congr fun i hi => ?_
    unfold byV
    have hi2 : i < us.length := by omega
    rw [List.getD_eq_getElem?_getD, List.getD_eq_getElem?_getD, List.getElem?_map, List.getElem?_eq_getElem hi2]
    have := hu _ (List.getElem_mem hi2)
    simp only [Option.map_some, Option.getD_some]
    congr 1
    rw [UInt8.toNat_ofNat']
    omega
  refine ⟨bstr k fun i => UInt8.ofNat (us.getD i 0), by simp [bstr, ByteArray.size], ?_⟩
  exact run_bstr (P := Try.prog) (w := W) (B := W.heap.size) 22 9 5 Try.underlying22 Try.underlying5 Try.underlying9 (u := fun i => UInt8.ofNat (us.getD i 0)) hs (fun hA => by
    rcases Nat.eq_zero_or_pos k with h0 | h0
    · exact h0
    · obtain ⟨b, o, hA2, _⟩ := hs 0 h0
      rw [hA] at hA2
      cases hA2)
set_option maxHeartbeats 4000000 in
theorem drawData_any {w : World} {p n c K : Nat} {A : Option Addr} (m : Nat) (h : SrcOK w p A n c K) (hK : K ≤ 274877906944) (hn : n ≤ 1048576) (hm : m ≤ 1000) :
    Calls Try.prog 33 #[.pointer (some ⟨p, 0, none⟩), .int .i64 (m : Int)] w fun e w' => ∃ x : ByteArray, x.size ≤ 1000 ∧ e = .returned (.string x) ∧ SrcOK w' p A n c (K + 3002) ∧ w.grownBy w' (some p) := by
  have HH := Lib.hid h
  have hp := h.lt
  have hal := fun O : Obj => (Below.refl w.heap.size w).alloc (Nat.le_refl _) O
  obtain ⟨g, HAM⟩ : ∃ g : Nat → Int, Hid (Calls Try.prog 34 #[.pointer (some ⟨p, 0, none⟩), .slice (some ⟨w.heap.size, 0, none⟩) 4 4] (w.alloc (.cells #[.int .i64 0, .int .i64 65, .int .i64 229, .int .i64 78] 2)) fun e w' => ∃ v : Nat, v < 4 ∧ e = .returned (.int .i64 (g v)) ∧ SrcOK w' p A n c (K + 2) ∧ (w.alloc (.cells #[.int .i64 0, .int .i64 65, .int .i64 229, .int .i64 78] 2)).grownBy w' (some p)) := ⟨fun i => ([0, 65, 229, 78] : List Int).getD i 0, Lib.hid (among_any (w := w.alloc (.cells #[.int .i64 0, .int .i64 65, .int .i64 229, .int .i64 78] 2)) (some ⟨w.heap.size, 0, none⟩) 4 4 (fun i => .int .i64 (([0, 65, 229, 78] : List Int).getD i 0)) (h.below (hal _)) (by omega) hn (by omega) (by omega) (fun b o e => by cases e; omega) (sl_lit _ (fun i hi => by
    have : i = 0 ∨ i = 1 ∨ i = 2 ∨ i = 3 := by omega
    rcases this with rfl | rfl | rfl | rfl <;> rfl)))⟩
  have HG0 := Lib.hid (only_belowS (only_refl w (some p)) (hal (.cells #[.int .i64 0, .int .i64 65, .int .i64 229, .int .i64 78] 2)))
  clear h hal
  go_enter Try.func33, Try.ntmps33
  go_upto_region 2 with (go_at_call 34; refine HAM.out.mono ?_; rintro e w1 ⟨v, hv, rfl, hs1, hg1⟩; have hg1 := only_moreS HG0.out hg1 (fun q e => by cases e; exact .inr rfl); obtain ⟨y0, hy0, hw0⟩ := u8_wrap (g v); have hw0' : g v % 256 = (y0 : Int) := (by rw [← hw0, IntKind.wrap_u8]))
  try simp only [hw0, hw0']
  have hz1 := hg1.size
  have hb2 := (Below.refl w1.heap.size w1).alloc (Nat.le_refl _) (.cells #[] 5)
  have HS2 := Lib.hid (hs1.below hb2)
  have HG2 := Lib.hid (only_belowS hg1 hb2)
  have HO2 := Lib.hid (own_nilE w1 5 1 w.heap.size hz1)
  clear hs1 hg1 hb2 hw0 hw0'
  go_wp2_with fail
  go_loopw [5, 6] (fun s5 s6 wr => ∃ (y k : Nat) (us : List Nat) (A2 : Option Addr) (c2 : Nat), y < 256 ∧ k ≤ m ∧ us.length = k ∧ (∀ z, z ∈ us → z < 256) ∧ s5 = .int .u8 (y : Int) ∧ s6 = .slice A2 k c2 ∧ wr.ownsRow w.heap.size 5 1 (.slice A2 k c2) k (byV us) ∧ SrcOK wr p A n c (K + 2 + 3 * k) ∧ w.grownBy wr (some p)) (fun _ s6 _ => m - slLen s6)
  case atStart => exact ⟨y0, 0, [], _, 0, hy0, by omega, rfl, fun z hz => (by cases hz), rfl, rfl, HO2.out, HS2.out, HG2.out⟩
  case round =>
    obtain ⟨y, k, us, A2, c2, hy, hk, hul, hu, rfl, rfl, ho, hs, hg⟩ := hrel
    have HUL := Lib.hid hul
    have HU := Lib.hid hu
    have HO := Lib.hid ho
    have HS := Lib.hid hs
    have HG := Lib.hid hg
    have hzr : w.heap.size ≤ wr.heap.size := hg.size
    by_cases hlt : k < m
    · have hki : (k : Int) < (m : Int) := by omega
      have H1 := Lib.hid (one_any 9 hs (by omega) hn (by omega) (by omega))
      clear hul hu ho hs hg
      go_wp2_with (first
        | (go_at_call 16; refine H1.out.mono ?_; rintro e w3 ⟨b, rfl, hs3, hg3⟩; have HO3 := Lib.hid (own_src HO.out hg3 hp); have HG3 := only_moreS HG.out hg3 (fun q e => by cases e; exact .inr rfl); have hz3 : w.heap.size ≤ w3.heap.size := HG3.size)
        | (go_at_call 50; refine (next_any hs3 (by omega) hn).mono ?_; rintro e w4 ⟨v2, hv2, rfl, hs4, hg4⟩; have HO4 := Lib.hid (own_src HO3.out hg4 hp); have HG4 := only_moreS HG3 hg4 (fun q e => by cases e; exact .inr rfl); have hz4 : w.heap.size ≤ w4.heap.size := HG4.size; have hw4 := u8w hv2; have hw4' : (v2 : Int) % 256 = (v2 : Int) := (by omega))
        | (at_builtin; refine wpList_pushT (.tmp 21) (.tmp 23) 22 w.heap.size 5 (.int .u8 0) [.int .u8 (y : Int)] 1 1 _ k _ HO3.out rfl rfl Try.underlying22 infoU8 rfl (by omega) rfl rfl rfl rfl (by intro u hu; simp at hu; subst hu; rfl) (by omega) (by omega) (by first | exact hz3 | exact hz4) ?_; intro A6 c6 w6 ho6 hg6)
        | (at_builtin; refine wpList_pushT (.tmp 21) (.tmp 23) 22 w.heap.size 5 (.int .u8 0) [.int .u8 (v2 : Int)] 1 1 _ k _ HO4.out rfl rfl Try.underlying22 infoU8 rfl (by omega) rfl rfl rfl rfl (by intro u hu; simp at hu; subst hu; rfl) (by omega) (by omega) (by first | exact hz3 | exact hz4) ?_; intro A6 c6 w6 ho6 hg6))
      · refine ⟨⟨v2, k + 1, us ++ [v2], some A6, c6, by assumption, by omega, by rw [List.length_append, HUL.out]; rfl, fun q hq => ?_, rfl, rfl, ?_, (hs4.grown hg6 (fun e => by have := (HO4.out.lt p e).1; omega) (fun q e => by have := (HO4.out.lt q e).1; omega)).more (by omega), only_moreS HG4 hg6 (fun q e => .inl (HO4.out.lt q e).1)⟩, by simp only [slLen]; omega⟩
        · rcases List.mem_append.1 hq with h1 | h1
          · exact HU.out q h1
          · rw [List.mem_singleton] at h1; omega
        · unfold byV at *
          rw [List.map_append]
          exact ho6
      · refine ⟨⟨y, k + 1, us ++ [y], some A6, c6, by assumption, by omega, by rw [List.length_append, HUL.out]; rfl, fun q hq => ?_, rfl, rfl, ?_, (hs3.grown hg6 (fun e => by have := (HO3.out.lt p e).1; omega) (fun q e => by have := (HO3.out.lt q e).1; omega)).more (by omega), only_moreS HG3 hg6 (fun q e => .inl (HO3.out.lt q e).1)⟩, by simp only [slLen]; omega⟩
        · rcases List.mem_append.1 hq with h1 | h1
          · exact HU.out q h1
          · rw [List.mem_singleton] at h1; omega
        · unfold byV at *
          rw [List.map_append]
          exact ho6
    · obtain rfl : k = m := by omega
      obtain ⟨x, hx, hcv⟩ := run_byV hul hu ho
      clear hul hu ho hs hg
      go_wp2_with fail
      go_ret
      exact ⟨x, by omega, rfl, HS.out.more (by omega), HG.out⟩
end Go.Proofs.Ytdofpkdemmngeaa
