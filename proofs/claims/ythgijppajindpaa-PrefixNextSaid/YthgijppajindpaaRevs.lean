/-
  bits.Reverse32 is walked; its bits are the number's, in the opposite order.
-/
import Derived.Test.YthgijppajindpaaDpth
import Derived.Laws.BitsLemmas
set_option linter.unusedVariables false
set_option linter.unusedSimpArgs false
namespace Go.Proofs.Ythgijppajindpaa
open Go.RowKit Go.Proofs.YthgijppajindpaaW.PrintWords

/-- Neighbours of m bits change places. -/
def swI (m : Int) (M : Int) (x : Int) : Int := Go.bits .or .u32 (Go.bits .and .u32 (x / m) M) ((Go.bits .and .u32 x M * m) % 4294967296)
/-- All the bits, in the opposite order. -/
def rev32 (x : Int) : Int :=
  (fun y => Go.bits .or .u32 (y / 65536) ((y * 65536) % 4294967296)) (swI 256 16711935 (swI 16 252645135 (swI 4 858993459 (swI 2 1431655765 x))))

set_option maxRecDepth 100000 in
theorem revBytes_calls (x : Int) (w : World) :
    Calls Try.prog 68 #[.int .u32 x] w fun e w' => e = .returned (.int .u32 ((fun y => Go.bits .or .u32 (y / 65536) ((y * 65536) % 4294967296)) (swI 256 16711935 x))) ∧ w = w' := by
  go_enter Try.func68, Try.ntmps68
  go_wp2
  go_ret
  exact ⟨rfl, rfl⟩

set_option maxRecDepth 100000 in
theorem rev32_calls (x : Int) (w : World) :
    Calls Try.prog 44 #[.int .u32 x] w fun e w' => e = .returned (.int .u32 (rev32 x)) ∧ w = w' := by
  go_enter Try.func44, Try.ntmps44
  go_wp2_with (go_at_call 68; ((refine (revBytes_calls (swI 16 252645135 (swI 4 858993459 (swI 2 1431655765 x))) _).mono ?_); rintro e w1 ⟨rfl, rfl⟩))
  go_ret
  exact ⟨rfl, rfl⟩

/-! ### plain -/
def sw (m M x : Nat) : Nat := ((x >>> m) &&& M) ||| ((x &&& M) <<< m)

theorem sw_bit (m M x j : Nat) : (sw m M x).testBit j = ((x.testBit (j + m) && M.testBit j) || (decide (m ≤ j) && (x.testBit (j - m) && M.testBit (j - m)))) := by
  unfold sw
  rw [Nat.testBit_or, Nat.testBit_and, Nat.testBit_shiftRight, Nat.testBit_shiftLeft, Nat.testBit_and, Nat.add_comm m j]

theorem or_u32 {a b : Nat} (ha : a < 4294967296) (hb : b < 4294967296) : Go.bits .or .u32 (a : Int) (b : Int) = ((a ||| b : Nat) : Int) :=
  (bits_nat .u32 32 (by decide) (fun n h0 h1 => by rw [IntKind.wrap_u32]; omega) a b ha hb).2
theorem and_u32 {a b : Nat} (ha : a < 4294967296) (hb : b < 4294967296) : Go.bits .and .u32 (a : Int) (b : Int) = ((a &&& b : Nat) : Int) :=
  (bits_nat .u32 32 (by decide) (fun n h0 h1 => by rw [IntKind.wrap_u32]; omega) a b ha hb).1

theorem sw_nat (s M x : Nat) (hx : x < 4294967296) (hM : M * 2 ^ s < 4294967296) : swI ((2 ^ s : Nat) : Int) (M : Int) (x : Int) = (sw s M x : Int) ∧ sw s M x < 4294967296 := by
  have hp : 0 < 2 ^ s := Nat.two_pow_pos s
  have hM1 : M < 4294967296 := Nat.lt_of_le_of_lt (Nat.le_mul_of_pos_right M hp) hM
  have h1 : x >>> s < 4294967296 := by rw [Nat.shiftRight_eq_div_pow]; exact Nat.lt_of_le_of_lt (Nat.div_le_self _ _) hx
  have h2 : x >>> s &&& M < 4294967296 := Nat.lt_of_le_of_lt Nat.and_le_right hM1
  have h3 : (x &&& M) <<< s < 4294967296 := by
    rw [Nat.shiftLeft_eq]
    exact Nat.lt_of_le_of_lt (Nat.mul_le_mul_right _ Nat.and_le_right) hM
  have e1 : (x : Int) / ((2 ^ s : Nat) : Int) = ((x >>> s : Nat) : Int) := by rw [Nat.shiftRight_eq_div_pow, Int.natCast_ediv]
  have e2 : (((x &&& M : Nat) : Int) * ((2 ^ s : Nat) : Int)) % 4294967296 = (((x &&& M) <<< s : Nat) : Int) := by
    obtain ⟨q, hq⟩ : ∃ q, q = (x &&& M) <<< s := ⟨_, rfl⟩
    rw [← hq] at h3 ⊢
    have : ((x &&& M : Nat) : Int) * ((2 ^ s : Nat) : Int) = (q : Int) := by rw [hq, Nat.shiftLeft_eq, Int.natCast_mul]
    rw [this]
    omega
  constructor
  · unfold swI sw
    rw [e1, and_u32 h1 hM1, and_u32 hx hM1, e2, or_u32 h2 h3]
  · unfold sw
    exact (Nat.or_lt_two_pow (n := 32) h2 h3)

def revN (x : Nat) : Nat := (fun y => (y >>> 16) ||| ((y <<< 16) % 2 ^ 32)) (sw 8 16711935 (sw 4 252645135 (sw 2 858993459 (sw 1 1431655765 x))))

theorem rev32_nat (x : Nat) (hx : x < 4294967296) : rev32 (x : Int) = (revN x : Int) ∧ revN x < 4294967296 := by
  obtain ⟨a1, a2⟩ := sw_nat 1 1431655765 x hx (by decide)
  obtain ⟨b1, b2⟩ := sw_nat 2 858993459 _ a2 (by decide)
  obtain ⟨c1, c2⟩ := sw_nat 4 252645135 _ b2 (by decide)
  obtain ⟨d1, d2⟩ := sw_nat 8 16711935 _ c2 (by decide)
  have a1' : swI 2 1431655765 (x : Int) = (sw 1 1431655765 x : Int) := a1
  have b1' : swI 4 858993459 ((sw 1 1431655765 x : Nat) : Int) = (sw 2 858993459 (sw 1 1431655765 x) : Int) := b1
  have c1' : swI 16 252645135 ((sw 2 858993459 (sw 1 1431655765 x) : Nat) : Int) = (sw 4 252645135 (sw 2 858993459 (sw 1 1431655765 x)) : Int) := c1
  have d1' : swI 256 16711935 ((sw 4 252645135 (sw 2 858993459 (sw 1 1431655765 x)) : Nat) : Int) = (sw 8 16711935 (sw 4 252645135 (sw 2 858993459 (sw 1 1431655765 x))) : Int) := d1
  unfold rev32 revN
  rw [a1', b1', c1', d1']
  generalize sw 8 16711935 (sw 4 252645135 (sw 2 858993459 (sw 1 1431655765 x))) = y at d2
  dsimp only
  have h1 : y >>> 16 < 4294967296 := by rw [Nat.shiftRight_eq_div_pow]; omega
  have h2 : y <<< 16 % 2 ^ 32 < 4294967296 := Nat.mod_lt _ (by decide)
  have e1 : (y : Int) / (65536 : Int) = ((y >>> 16 : Nat) : Int) := by rw [Nat.shiftRight_eq_div_pow, Int.natCast_ediv]; rfl
  have e2 : ((y : Int) * (65536 : Int)) % (4294967296 : Int) = ((y <<< 16 % 2 ^ 32 : Nat) : Int) := by rw [Nat.shiftLeft_eq, Int.natCast_emod, Int.natCast_mul]; rfl
  rw [e1, e2, or_u32 h1 h2]
  exact ⟨rfl, Nat.or_lt_two_pow (n := 32) h1 h2⟩

theorem mask1 : ∀ j, j < 32 → (1431655765 : Nat).testBit j = decide (j % 2 = 0) := by decide
theorem mask2 : ∀ j, j < 32 → (858993459 : Nat).testBit j = decide (j / 2 % 2 = 0) := by decide
theorem mask4 : ∀ j, j < 32 → (252645135 : Nat).testBit j = decide (j / 4 % 2 = 0) := by decide
theorem mask8 : ∀ j, j < 32 → (16711935 : Nat).testBit j = decide (j / 8 % 2 = 0) := by decide

theorem sw_at (s M : Nat) (hs : s = 1 ∨ s = 2 ∨ s = 4 ∨ s = 8) (hM : ∀ j, j < 32 → M.testBit j = decide (j / s % 2 = 0)) (x j : Nat) (hj : j < 32) :
    (sw s M x).testBit j = x.testBit (if j / s % 2 = 0 then j + s else j - s) := by
  rw [sw_bit, hM j hj]
  by_cases h : j / s % 2 = 0
  · rw [if_pos h, decide_eq_true h, Bool.and_true]
    by_cases hle : s ≤ j
    · rw [hM (j - s) (by omega), decide_eq_false (show ¬ (j - s) / s % 2 = 0 by rcases hs with rfl | rfl | rfl | rfl <;> omega)]
      simp
    · simp [hle]
  · rw [if_neg h, decide_eq_false h, Bool.and_false, Bool.false_or]
    have hle : s ≤ j := by rcases hs with rfl | rfl | rfl | rfl <;> omega
    rw [hM (j - s) (by omega), decide_eq_true (show (j - s) / s % 2 = 0 by rcases hs with rfl | rfl | rfl | rfl <;> omega), decide_eq_true hle]
    simp

theorem idx_all : ∀ j, j < 32 →
    (fun i1 => if i1 / 1 % 2 = 0 then i1 + 1 else i1 - 1) ((fun i2 => if i2 / 2 % 2 = 0 then i2 + 2 else i2 - 2) ((fun i4 => if i4 / 4 % 2 = 0 then i4 + 4 else i4 - 4) ((fun i8 => if i8 / 8 % 2 = 0 then i8 + 8 else i8 - 8) (if j < 16 then j + 16 else j - 16)))) = 31 - j := by decide

theorem revN_bit (x j : Nat) (hx : x < 4294967296) (hj : j < 32) : (revN x).testBit j = x.testBit (31 - j) := by
  have d2 := (sw_nat 8 16711935 _ (sw_nat 4 252645135 _ (sw_nat 2 858993459 _ (sw_nat 1 1431655765 x hx (by decide)).2 (by decide)).2 (by decide)).2 (by decide)).2
  unfold revN
  dsimp only
  have e : ∀ y : Nat, y < 4294967296 → ((y >>> 16) ||| ((y <<< 16) % 2 ^ 32)).testBit j = y.testBit (if j < 16 then j + 16 else j - 16) := by
    intro y hy
    rw [Nat.testBit_or, Nat.testBit_shiftRight, Nat.testBit_mod_two_pow, Nat.testBit_shiftLeft, decide_eq_true hj, Bool.true_and]
    by_cases h : j < 16
    · rw [if_pos h, decide_eq_false (show ¬ j ≥ 16 by omega), Bool.false_and, Bool.or_false, Nat.add_comm]
    · rw [if_neg h, decide_eq_true (show j ≥ 16 by omega), Bool.true_and]
      have : y.testBit (16 + j) = false := Nat.testBit_lt_two_pow (Nat.lt_of_lt_of_le (show y < 2 ^ 32 from hy) (Nat.pow_le_pow_right (n := 2) (by decide) (show 32 ≤ 16 + j by omega)))
      rw [this, Bool.false_or]
  rw [e _ d2]
  have hi : (if j < 16 then j + 16 else j - 16) < 32 := by split <;> omega
  have h8 := idx_all j hj
  generalize (if j < 16 then j + 16 else j - 16) = i at hi h8 ⊢
  rw [sw_at 8 16711935 (by simp) mask8 _ i hi]
  have hi8 : (if i / 8 % 2 = 0 then i + 8 else i - 8) < 32 := by split <;> omega
  dsimp only at h8
  generalize (if i / 8 % 2 = 0 then i + 8 else i - 8) = i8 at hi8 h8 ⊢
  rw [sw_at 4 252645135 (by simp) mask4 _ i8 hi8]
  have hi4 : (if i8 / 4 % 2 = 0 then i8 + 4 else i8 - 4) < 32 := by split <;> omega
  generalize (if i8 / 4 % 2 = 0 then i8 + 4 else i8 - 4) = i4 at hi4 h8 ⊢
  rw [sw_at 2 858993459 (by simp) mask2 _ i4 hi4]
  have hi2 : (if i4 / 2 % 2 = 0 then i4 + 2 else i4 - 2) < 32 := by split <;> omega
  generalize (if i4 / 2 % 2 = 0 then i4 + 2 else i4 - 2) = i2 at hi2 h8 ⊢
  rw [sw_at 1 1431655765 (by simp) (fun j h => by rw [mask1 j h, Nat.div_one]) _ i2 hi2, h8]

/-- The lowest bits of a number, in the opposite order. -/
def turnN (x : Nat) : Nat → Nat
  | 0 => 0
  | k + 1 => (turnN x k) <<< 1 ||| ((x >>> k) &&& 1)

theorem turnN_bit (x : Nat) : ∀ k j, (turnN x k).testBit j = (decide (j < k) && x.testBit (k - 1 - j))
  | 0, j => by simp [turnN]
  | k + 1, j => by
    rw [turnN, Nat.testBit_or, Nat.testBit_shiftLeft, turnN_bit x k, Nat.testBit_and, Nat.testBit_shiftRight]
    cases j with
    | zero => simp
    | succ j =>
      have h1 : (1 : Nat).testBit (j + 1) = false := by
        rw [Nat.testBit_succ]; simp
      rw [h1, Bool.and_false, Bool.or_false]
      have h2 : decide (j + 1 ≥ 1) = true := by simp
      rw [h2, Bool.true_and, Nat.add_sub_cancel]
      by_cases h : j < k
      · rw [decide_eq_true h, decide_eq_true (show j + 1 < k + 1 by omega), show k - 1 - j = k + 1 - 1 - (j + 1) by omega]
      · rw [decide_eq_false h, decide_eq_false (show ¬ j + 1 < k + 1 by omega)]
        simp

theorem turnN_lt (x : Nat) (k : Nat) : turnN x k < 2 ^ k := by
  apply Nat.lt_pow_two_of_testBit
  intro i hi
  rw [turnN_bit, decide_eq_false (by omega)]
  rfl

/-- The program's turning is the document's. -/
theorem rev_turn (x k : Nat) (hx : x < 4294967296) (hk : k ≤ 32) : revN x / 2 ^ (32 - k) = turnN x k := by
  apply Nat.eq_of_testBit_eq
  intro j
  rw [← Nat.shiftRight_eq_div_pow, Nat.testBit_shiftRight, turnN_bit]
  by_cases h : j < k
  · rw [revN_bit x _ hx (by omega), decide_eq_true h, Bool.true_and]
    congr 1
    omega
  · rw [decide_eq_false h, Bool.false_and]
    exact Nat.testBit_lt_two_pow (Nat.lt_of_lt_of_le (show revN x < 2 ^ 32 from (rev32_nat x hx).2) (Nat.pow_le_pow_right (n := 2) (by decide) (show 32 ≤ 32 - k + j by omega)))

theorem rev32_turn (x : Int) (k : Nat) (h0 : 0 ≤ x) (hx : x < 4294967296) (hk : k ≤ 32) : rev32 x / 2 ^ (32 - k) = (turnN x.toNat k : Int) := by
  obtain ⟨n, rfl⟩ : ∃ n : Nat, x = (n : Int) := ⟨x.toNat, by omega⟩
  rw [(rev32_nat n (by omega)).1, Int.toNat_natCast, ← rev_turn n k (by omega) hk]
  push_cast
  rfl

end Go.Proofs.Ythgijppajindpaa
