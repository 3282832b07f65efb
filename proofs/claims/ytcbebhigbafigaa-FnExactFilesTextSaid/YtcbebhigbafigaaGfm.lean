/-
  GF(256), plain: the product 'gmul' on numbers below 256, its laws, its powers of 2, its inverses. No program is named here.
-/
import Derived.IntWalk
namespace Go.Proofs.Ytcbebhigbafigaa.gf
def x2 (a : Nat) : Nat := if 255 < 2 * a then (2 * a) ^^^ 285 else 2 * a
def mulF : Nat → Nat → Nat → Nat → Nat
  | 0, out, _, _ => out
  | n + 1, out, a, b => if b = 0 then out else mulF n (if b % 2 = 1 then out ^^^ a else out) (x2 a) (b / 2)
def gmul (a b : Nat) : Nat := mulF 8 0 a b
theorem x2_lt (a : Nat) (h : a < 256) : x2 a < 256 := by
  unfold x2
  split
  · have : ∀ k < 256, 255 < 2 * k → (2 * k) ^^^ 285 < 256 := by decide +kernel
    exact this a h ‹_›
  · omega
theorem xor_lt (a b : Nat) (ha : a < 256) (hb : b < 256) : a ^^^ b < 256 := Nat.xor_lt_two_pow (n := 8) (by omega) (by omega)
theorem mulF_zero (n out a : Nat) : mulF n out a 0 = out := by cases n <;> simp [mulF]
theorem mulF_lt (n : Nat) : ∀ out a b, out < 256 → a < 256 → mulF n out a b < 256 := by
  induction n with
  | zero => intro out a b h _; simpa [mulF] using h
  | succ n ih =>
    intro out a b ho ha
    simp only [mulF]
    split
    · exact ho
    · refine ih _ _ _ ?_ (x2_lt a ha)
      split
      · exact xor_lt _ _ ho ha
      · exact ho
theorem gmul_lt (a b : Nat) (h : a < 256) : gmul a b < 256 := mulF_lt 8 0 a b (by omega) h
/-- what holds at the head of a round -/
def Mid (a b n out x y : Nat) : Prop := out < 256 ∧ x < 256 ∧ y < 2 ^ n ∧ n ≤ 8 ∧ mulF n out x y = gmul a b
theorem mid_start (a b : Nat) (ha : a < 256) (hb : b < 256) : Mid a b 8 0 a b := ⟨by omega, ha, by omega, by omega, rfl⟩
theorem mid_y {a b n out x y : Nat} (h : Mid a b n out x y) : y < 256 := by
  obtain ⟨_, _, h3, h4, _⟩ := h
  have := Nat.pow_le_pow_right (n := 2) (by omega) h4
  omega
theorem mid_next {a b n out x y : Nat} (h : Mid a b n out x y) (hy : 0 < y) :
    ∃ m, Mid a b m (if y % 2 = 1 then out ^^^ x else out) (x2 x) (y / 2) := by
  obtain ⟨h1, h2, h3, h4, h5⟩ := h
  cases n with
  | zero => omega
  | succ n =>
    refine ⟨n, ?_, x2_lt x h2, ?_, by omega, ?_⟩
    · split
      · exact xor_lt _ _ h1 h2
      · exact h1
    · rw [Nat.pow_succ] at h3; omega
    · rw [← h5]; exact (if_neg (by omega)).symm
theorem mid_end {a b n out x : Nat} (h : Mid a b n out x 0) : out = gmul a b := by
  obtain ⟨_, _, _, _, h5⟩ := h
  rw [← h5, mulF_zero]

/-! the laws -/
theorem x2_bit (a : Nat) (h : a < 256) : x2 a = (2 * a) ^^^ (if a.testBit 7 then 285 else 0) := by
  have : ∀ k < 256, x2 k = (2 * k) ^^^ (if k.testBit 7 then 285 else 0) := by decide +kernel
  exact this a h
theorem two_xor (a b : Nat) : 2 * (a ^^^ b) = (2 * a) ^^^ (2 * b) := by
  have := Nat.shiftLeft_xor_distrib (a := a) (b := b) (i := 1)
  simp only [Nat.shiftLeft_eq, Nat.pow_one] at this
  rw [Nat.mul_comm 2, this, Nat.mul_comm 2 a, Nat.mul_comm 2 b]
theorem xor4 (a b c d : Nat) : (a ^^^ b) ^^^ (c ^^^ d) = (a ^^^ c) ^^^ (b ^^^ d) := by
  rw [Nat.xor_assoc, Nat.xor_assoc, ← Nat.xor_assoc b c d, Nat.xor_comm b c, Nat.xor_assoc]
theorem x2_xor (a b : Nat) (ha : a < 256) (hb : b < 256) : x2 (a ^^^ b) = x2 a ^^^ x2 b := by
  rw [x2_bit _ (xor_lt a b ha hb), x2_bit a ha, x2_bit b hb, two_xor, xor4, Nat.testBit_xor]
  congr 1
  cases a.testBit 7 <;> cases b.testBit 7 <;> rfl
def mulG : Nat → Nat → Nat → Nat → Nat
  | 0, out, _, _ => out
  | n + 1, out, a, b => mulG n (if b % 2 = 1 then out ^^^ a else out) (x2 a) (b / 2)
theorem mulG_zero (n : Nat) : ∀ out a, mulG n out a 0 = out := by
  induction n with
  | zero => intro out a; rfl
  | succ n ih => intro out a; simpa [mulG] using ih out (x2 a)
theorem mulF_eq (n : Nat) : ∀ out a b, mulF n out a b = mulG n out a b := by
  induction n with
  | zero => intro out a b; rfl
  | succ n ih =>
    intro out a b
    simp only [mulF]
    split
    · rename_i h; subst h; rw [mulG_zero]
    · exact ih _ _ _
theorem gmul_eq (a b : Nat) : gmul a b = mulG 8 0 a b := mulF_eq 8 0 a b
theorem mulG_left (n : Nat) : ∀ o1 o2 a c b, a < 256 → c < 256 → mulG n (o1 ^^^ o2) (a ^^^ c) b = mulG n o1 a b ^^^ mulG n o2 c b := by
  induction n with
  | zero => intros; rfl
  | succ n ih =>
    intro o1 o2 a c b ha hc
    simp only [mulG]
    rw [x2_xor a c ha hc, ← ih _ _ _ _ _ (x2_lt a ha) (x2_lt c hc)]
    congr 1
    split
    · exact xor4 _ _ _ _
    · rfl
theorem xor_mod2 (b c : Nat) : ((b ^^^ c) % 2 = 1) ↔ ¬ ((b % 2 = 1) ↔ (c % 2 = 1)) := by
  have h := Nat.testBit_xor b c 0
  simp only [Nat.testBit_zero] at h
  by_cases hb : b % 2 = 1 <;> by_cases hc : c % 2 = 1 <;> by_cases hx : (b ^^^ c) % 2 = 1 <;> simp_all
theorem xor_div2 (b c : Nat) : (b ^^^ c) / 2 = (b / 2) ^^^ (c / 2) := by
  have := Nat.shiftRight_xor_distrib (a := b) (b := c) (i := 1)
  simpa [Nat.shiftRight_eq_div_pow] using this
theorem mulG_right (n : Nat) : ∀ o1 o2 a b c, mulG n (o1 ^^^ o2) a (b ^^^ c) = mulG n o1 a b ^^^ mulG n o2 a c := by
  induction n with
  | zero => intros; rfl
  | succ n ih =>
    intro o1 o2 a b c
    simp only [mulG]
    rw [xor_div2, ← ih]
    congr 1
    have h := xor_mod2 b c
    by_cases hb : b % 2 = 1 <;> by_cases hc : c % 2 = 1
    · have hx : ¬ (b ^^^ c) % 2 = 1 := by rw [h]; simp [hb, hc]
      rw [if_neg hx, if_pos hb, if_pos hc, xor4, Nat.xor_self, Nat.xor_zero]
    · have hx : (b ^^^ c) % 2 = 1 := by rw [h]; simp [hb, hc]
      rw [if_pos hx, if_pos hb, if_neg hc, Nat.xor_assoc, Nat.xor_assoc, Nat.xor_comm o2 a]
    · have hx : (b ^^^ c) % 2 = 1 := by rw [h]; simp [hb, hc]
      rw [if_pos hx, if_neg hb, if_pos hc, Nat.xor_assoc]
    · have hx : ¬ (b ^^^ c) % 2 = 1 := by rw [h]; simp [hb, hc]
      rw [if_neg hx, if_neg hb, if_neg hc]
theorem gmul_xor_left (a c b : Nat) (ha : a < 256) (hc : c < 256) : gmul (a ^^^ c) b = gmul a b ^^^ gmul c b := by
  rw [gmul_eq, gmul_eq, gmul_eq]; exact mulG_left 8 0 0 a c b ha hc
theorem gmul_xor_right (a b c : Nat) : gmul a (b ^^^ c) = gmul a b ^^^ gmul a c := by
  rw [gmul_eq, gmul_eq, gmul_eq]; exact mulG_right 8 0 0 a b c
theorem mulG_lt (n out a b : Nat) (ho : out < 256) (ha : a < 256) : mulG n out a b < 256 := by
  rw [← mulF_eq]; exact mulF_lt n out a b ho ha
theorem mulG_x2 (n : Nat) : ∀ out a b, out < 256 → a < 256 → mulG n (x2 out) (x2 a) b = x2 (mulG n out a b) := by
  induction n with
  | zero => intros; rfl
  | succ n ih =>
    intro out a b ho ha
    simp only [mulG]
    split
    · rw [← x2_xor out a ho ha]; exact ih _ _ _ (xor_lt _ _ ho ha) (x2_lt a ha)
    · exact ih _ _ _ ho (x2_lt a ha)
theorem gmul_x2_left (a b : Nat) (ha : a < 256) : gmul (x2 a) b = x2 (gmul a b) := by
  rw [gmul_eq, gmul_eq]; exact mulG_x2 8 0 a b (by omega) ha
theorem mulG_more (n : Nat) : ∀ out a b, b < 2 ^ n → mulG (n + 1) out a b = mulG n out a b := by
  induction n with
  | zero => intro out a b h; have : b = 0 := by omega
            subst this; rw [mulG_zero, mulG_zero]
  | succ n ih =>
    intro out a b h
    rw [Nat.pow_succ] at h
    simp only [mulG]
    exact ih _ _ _ (by omega)
theorem g285 : ∀ a < 256, mulG 9 0 a 285 = 0 := by decide +kernel
theorem gmul_x2_right (a b : Nat) (ha : a < 256) (hb : b < 256) : gmul a (x2 b) = x2 (gmul a b) := by
  have h9 : mulG 9 0 a (2 * b) = x2 (gmul a b) := by
    have : mulG 9 0 a (2 * b) = mulG 8 0 (x2 a) b := by
      show mulG 8 (if 2 * b % 2 = 1 then 0 ^^^ a else 0) (x2 a) (2 * b / 2) = _
      rw [if_neg (by omega), Nat.mul_div_cancel_left b (by omega)]
    rw [this, ← gmul_eq, gmul_x2_left a b ha]
  rw [gmul_eq, ← mulG_more 8 0 a (x2 b) (x2_lt b hb), x2_bit b hb]
  have := mulG_right 9 0 0 a (2 * b) (if b.testBit 7 then 285 else 0)
  rw [Nat.xor_self] at this
  rw [this, h9]
  split
  · rw [g285 a ha, Nat.xor_zero]
  · rw [mulG_zero, Nat.xor_zero]
theorem ind (P : Nat → Prop) (h0 : P 0) (h1 : P 1) (hx : ∀ b, b < 256 → P b → P (x2 b)) (hxor : ∀ b c, b < 256 → c < 256 → P b → P c → P (b ^^^ c)) : ∀ b, b < 256 → P b := by
  intro b
  induction b using Nat.strongRecOn with
  | _ b ih =>
    intro hb
    rcases Nat.eq_zero_or_pos b with rfl | hp
    · exact h0
    · have h2 := ih (b / 2) (by omega) (by omega)
      have hd : x2 (b / 2) = 2 * (b / 2) := by unfold x2; rw [if_neg (by omega)]
      have hs := hx (b / 2) (by omega) h2
      rw [hd] at hs
      have hbit : P (b % 2) := by
        rcases Nat.mod_two_eq_zero_or_one b with h | h <;> rw [h] <;> assumption
      have := hxor _ _ (by omega) (by omega) hs hbit
      have e : (2 * (b / 2)) ^^^ (b % 2) = b := by
        have : ∀ k < 256, (2 * (k / 2)) ^^^ (k % 2) = k := by decide +kernel
        exact this b hb
      rwa [e] at this
theorem gmul_zero (a : Nat) : gmul a 0 = 0 := mulF_zero 8 0 a
theorem zero_gmul (a : Nat) (ha : a < 256) : gmul 0 a = 0 := by
  have : ∀ k < 256, gmul 0 k = 0 := by decide +kernel
  exact this a ha
theorem gmul_one (a : Nat) (ha : a < 256) : gmul a 1 = a := by
  have : ∀ k < 256, gmul k 1 = k := by decide +kernel
  exact this a ha
theorem one_gmul (a : Nat) (ha : a < 256) : gmul 1 a = a := by
  have : ∀ k < 256, gmul 1 k = k := by decide +kernel
  exact this a ha
theorem gmul_comm (a b : Nat) (ha : a < 256) (hb : b < 256) : gmul a b = gmul b a := by
  refine ind (fun b => ∀ a, a < 256 → gmul a b = gmul b a) ?_ ?_ ?_ ?_ b hb a ha
  · intro a ha; rw [gmul_zero, zero_gmul a ha]
  · intro a ha; rw [gmul_one a ha, one_gmul a ha]
  · intro b hb h a ha; rw [gmul_x2_right a b ha hb, gmul_x2_left b a hb, h a ha]
  · intro b c hb hc h1 h2 a ha; rw [gmul_xor_right, gmul_xor_left b c a hb hc, h1 a ha, h2 a ha]
theorem gmul_assoc (a b c : Nat) (ha : a < 256) (hb : b < 256) (hc : c < 256) : gmul (gmul a b) c = gmul a (gmul b c) := by
  refine ind (fun c => gmul (gmul a b) c = gmul a (gmul b c)) ?_ ?_ ?_ ?_ c hc
  · rw [gmul_zero, gmul_zero, gmul_zero]
  · rw [gmul_one _ (gmul_lt a b ha), gmul_one b hb]
  · intro c hc h
    rw [gmul_x2_right _ c (gmul_lt a b ha) hc, h, gmul_x2_right b c hb hc, gmul_x2_right a _ ha (gmul_lt b c hb)]
  · intro c d hc hd h1 h2
    rw [gmul_xor_right, h1, h2, gmul_xor_right, gmul_xor_right]
/-- the first number from 1 to 255 whose product is 1 -/
def ginvF (a : Nat) : Nat → Nat → Nat
  | 0, _ => 0
  | n + 1, b => if gmul a b = 1 then b else ginvF a n (b + 1)
def ginv (a : Nat) : Nat := ginvF a 255 1
def invTable : List Nat := [0, 1, 142, 244, 71, 167, 122, 186, 173, 157, 221, 152, 61, 170, 93, 150, 216, 114, 192, 88, 224, 62, 76, 102, 144, 222, 85, 128, 160, 131, 75, 42, 108, 237, 57, 81, 96, 86, 44, 138, 112, 208, 31, 74, 38, 139, 51, 110, 72, 137, 111, 46, 164, 195, 64, 94, 80, 34, 207, 169, 171, 12, 21, 225, 54, 95, 248, 213, 146, 78, 166, 4, 48, 136, 43, 30, 22, 103, 69, 147, 56, 35, 104, 140, 129, 26, 37, 97, 19, 193, 203, 99, 151, 14, 55, 65, 36, 87, 202, 91, 185, 196, 23, 77, 82, 141, 239, 179, 32, 236, 47, 50, 40, 209, 17, 217, 233, 251, 218, 121, 219, 119, 6, 187, 132, 205, 254, 252, 27, 84, 161, 29, 124, 204, 228, 176, 73, 49, 39, 45, 83, 105, 2, 245, 24, 223, 68, 79, 155, 188, 15, 92, 11, 220, 189, 148, 172, 9, 199, 162, 28, 130, 159, 198, 52, 194, 70, 5, 206, 59, 13, 60, 156, 8, 190, 183, 135, 229, 238, 107, 235, 242, 191, 175, 197, 100, 7, 123, 149, 154, 174, 182, 18, 89, 165, 53, 101, 184, 163, 158, 210, 247, 98, 90, 133, 125, 168, 58, 41, 113, 200, 246, 249, 67, 215, 214, 16, 115, 118, 120, 153, 10, 25, 145, 20, 63, 230, 240, 134, 177, 226, 241, 250, 116, 243, 180, 109, 33, 178, 106, 227, 231, 181, 234, 3, 143, 211, 201, 66, 212, 232, 117, 127, 255, 126, 253]
set_option maxRecDepth 10000 in
theorem inv_table : ∀ a < 256, a = 0 ∨ (gmul a (invTable.getD a 0) = 1 ∧ invTable.getD a 0 < 256 ∧ 0 < invTable.getD a 0) := by decide +kernel
theorem ginvF_spec (a : Nat) : ∀ n b y, b ≤ y → y < b + n → gmul a y = 1 → gmul a (ginvF a n b) = 1 := by
  intro n
  induction n with
  | zero => intro b y h1 h2; omega
  | succ n ih =>
    intro b y h1 h2 h
    simp only [ginvF]
    split
    · assumption
    · refine ih (b + 1) y ?_ (by omega) h
      rcases Nat.lt_or_ge b y with h3 | h3
      · omega
      · have : b = y := by omega
        subst this; contradiction
theorem ginv_spec (a : Nat) (ha : a < 256) (h0 : a ≠ 0) : gmul a (ginv a) = 1 := by
  rcases inv_table a ha with h | ⟨h, h1, h2⟩
  · exact absurd h h0
  · exact ginvF_spec a 255 1 _ h2 (by omega) h
theorem ginvF_lt (a : Nat) : ∀ n b, b + n ≤ 256 → ginvF a n b < 256 := by
  intro n
  induction n with
  | zero => intro b _; simp [ginvF]
  | succ n ih =>
    intro b h
    simp only [ginvF]
    split
    · omega
    · exact ih _ (by omega)
theorem ginv_lt (a : Nat) : ginv a < 256 := ginvF_lt a 255 1 (by omega)
def gpow : Nat → Nat
  | 0 => 1
  | n + 1 => gmul (gpow n) 2
theorem gpow_lt (n : Nat) : gpow n < 256 := by
  cases n with
  | zero => simp [gpow]
  | succ n => exact mulF_lt 8 0 _ 2 (by omega) (by induction n with
    | zero => simp [gpow]
    | succ n ih => exact mulF_lt 8 0 _ 2 (by omega) ih)
theorem gpow_add (i j : Nat) : gpow (i + j) = gmul (gpow i) (gpow j) := by
  induction j with
  | zero => rw [Nat.add_zero]; exact (gmul_one _ (gpow_lt i)).symm
  | succ j ih =>
    rw [← Nat.add_assoc]
    show gmul (gpow (i + j)) 2 = gmul (gpow i) (gmul (gpow j) 2)
    rw [ih, gmul_assoc _ _ _ (gpow_lt i) (gpow_lt j) (by omega)]
theorem gpow_255 : gpow 255 = 1 := by decide +kernel
theorem gpow_mod (n : Nat) : gpow (n % 255) = gpow n := by
  induction n using Nat.strongRecOn with
  | _ n ih =>
    by_cases h : n < 255
    · rw [Nat.mod_eq_of_lt h]
    · have e : gpow n = gpow (n - 255) := by
        have h1 := gpow_add (n - 255) 255
        rw [gpow_255, gmul_one _ (gpow_lt _)] at h1
        rw [← h1]
        exact congrArg gpow (by omega)
      rw [e, ← ih (n - 255) (by omega)]
      exact congrArg gpow (by omega)
def noOne : Nat → Nat → Bool
  | 0, _ => true
  | n + 1, x => (gmul x 2 != 1) && noOne n (gmul x 2)
theorem noOne_spec : ∀ n i, noOne n (gpow i) = true → ∀ k, k < n → gpow (i + k + 1) ≠ 1 := by
  intro n
  induction n with
  | zero => intro i _ k hk; omega
  | succ n ih =>
    intro i h k hk
    simp only [noOne, Bool.and_eq_true, bne_iff_ne] at h
    cases k with
    | zero => exact h.1
    | succ k =>
      have := ih (i + 1) h.2 k (by omega)
      rwa [show i + 1 + k + 1 = i + (k + 1) + 1 by omega] at this
theorem noOne_all : noOne 254 (gpow 0) = true := by decide +kernel
theorem gpow_ne_one (k : Nat) (h : k % 255 ≠ 0) : gpow k ≠ 1 := by
  rw [← gpow_mod]
  have := noOne_spec 254 0 noOne_all (k % 255 - 1) (by omega)
  rwa [show 0 + (k % 255 - 1) + 1 = k % 255 by omega] at this
end Go.Proofs.Ytcbebhigbafigaa.gf
